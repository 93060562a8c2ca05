/- WALK, or plain laws for it: theorem f<k> says what function k returns. Conditions: none but those ahead of each theorem. -/
import Derived.Test.YtklhdnjhgbglhaaGreatYP8
set_option linter.unusedVariables false
set_option linter.unusedSimpArgs false
open Nat renaming reduceEqDiff → sN1, reduceAdd → sN2, reduceBEq → sN3, reduceLT → sN4, reduceMul → sN5, reduceLeDiff → sN6, reduceSub → sN7
open Int renaming reduceLE → sI1, reduceLT → sI2, reduceEq → sI3
open Go Go.Vm Go.Proofs
set_option maxRecDepth 100000
set_option maxHeartbeats 8000000
set_option maxHeartbeats 8000000
theorem f121 (T : Int) (vs : List Ver) (ws : List Wr) (t : Int) (c c2 : Bool) (hg : Good T vs) (hw : GoodW ws) (ht : T < t) (h1 : 1 ≤ t) (h40 : t ≤ 40) (hl5 : ws.length ≤ 5) (hl : vs.length + ws.length ≤ 70) : Fx 121 [.fro none c (vs.map gA), .fro none c2 (ws.map wA), .int .i64 t] (.own 4 ((wrV vs ws t).map gO)) := by
  refine FxR.mono (R := fun r l => r = .own 4 ((wrV vs ws t).map gO) ∧ l = .und) ?_ (fun _ _ h => h)
  refine fn_ofX true Tryz.func121 (by kernel_rfl) rfl (by kernel_rfl) (by kernel_rfl) (Nat.le_of_ble_eq_true rfl) rfl fun Q hQ => ?_
  simp only [tr_seq, tr_block, tr_loop, tr_cond, tr_skip, tr_exit, tr_ret, tr_reg]
  rw [tr_calm (i := 8) (by kernel_rfl), tr_cut 6 (by kernel_rfl)]
  simp only [vmA, sN1, reduceIte, sN2, sN3, reduceCtorEq, sN4, sI1, sI2, sI3, sN5, sN6, List.length_map]
  refine callD (f110 vs c (by omega) fun v hv => by have := (hg.one v hv).row.1; omega) ?_
  simp only [vmA, sN1, reduceIte, sN2, sN3, reduceCtorEq, sN4, sI1, sI2, sI3, sN5, sN6, List.length_map]
  refine WT_loopR (fun (zz : Nat × Nat) σ => (zz.1 ≤ ws.length) ∧ σ.sl 15 = .int .i64 zz.1 ∧ σ.sl 14 = .int .i64 ws.length ∧ σ.sl 13 = .fro none c2 (ws.map wA) ∧ σ.sl 2 = .int .i64 t ∧ σ.sl 7 = .hd 448 zz.2 0 ((outV vs (ws.take zz.1) t).length) false ∧ (σ.en 448).live = true ∧ (σ.en 448).gen = zz.2 ∧ (σ.en 448).frz = false ∧ (σ.en 448).sz = 4 ∧ (σ.en 448).elems = (outV vs (ws.take zz.1) t).map gO) (fun zz => ws.length - zz.1) 7 ?_ ?_
  · simp only [vmA, sN1, reduceIte, sN2, sN3, reduceCtorEq, sN4, sI1, sI2, sI3, sN5, sN6, reown]
    exact ⟨(0, 1), Nat.zero_le _, rfl, by simp [outV_zero]⟩
  rintro ⟨j, γ⟩ σ ⟨hj, e15, e14, e13, e2, e7, m448a, m448b, m448c, m448d, m448e⟩
  try dsimp only at e15 e14 e13 e2 e7 m448a m448b m448c m448d m448e hj
  obtain ⟨δ, hδ⟩ : ∃ δ, (σ.en 576).gen + 1 = δ := ⟨_, rfl⟩
  simp only [vmA, sN1, reduceIte, sN2, sN3, reduceCtorEq, sN4, sI1, sI2, sI3, sN5, sN6, e15, e14, e13, e2, e7, m448a, m448b, m448c, m448d, m448e, hδ, List.length_map, wA, Option.bind_none]
  refine ⟨fun hlt => ⟨hlt, by omega, ?_⟩, fun hge => ?_⟩
  · generalize hL : outV vs (ws.take j) t = L at *
    have hLl : L.length ≤ 70 := by
      have := outV_length vs (ws.take j) t
      rw [hL] at this
      have h2 : (ws.take j).length ≤ ws.length := by simp; omega
      omega
    refine WT_loop (fun (i : Nat) σ => (i ≤ L.length) ∧ σ.sl 21 = .int .i64 i ∧ σ.sl 20 = .int .i64 L.length ∧ σ.sl 15 = .int .i64 j ∧ σ.sl 14 = .int .i64 ws.length ∧ σ.sl 13 = .fro none c2 (ws.map wA) ∧ σ.sl 2 = .int .i64 t ∧ σ.sl 9 = .ptr 576 δ 0 0 ∧ (σ.en 576).live = true ∧ (σ.en 576).gen = δ ∧ (σ.en 576).frz = false ∧ (σ.en 576).sz = 3 ∧ (σ.en 576).elems = [wA ws[j]!] ∧ σ.sl 7 = .hd 448 γ 0 (L.length) false ∧ (σ.en 448).live = true ∧ (σ.en 448).gen = γ ∧ (σ.en 448).frz = false ∧ (σ.en 448).sz = 4 ∧ (σ.en 448).elems = (inV L ws[j]!.key t i).map gO) (fun i => L.length - i) (0) ⟨Nat.zero_le _, by simp [vmI, e15, e14, e13, e2, e7, m448a, m448b, m448c, m448d, m448e, wA, inV_zero], by simp [vmI, e15, e14, e13, e2, e7, m448a, m448b, m448c, m448d, m448e, wA, inV_zero], by simp [vmI, e15, e14, e13, e2, e7, m448a, m448b, m448c, m448d, m448e, wA, inV_zero], by simp [vmI, e15, e14, e13, e2, e7, m448a, m448b, m448c, m448d, m448e, wA, inV_zero], by simp [vmI, e15, e14, e13, e2, e7, m448a, m448b, m448c, m448d, m448e, wA, inV_zero], by simp [vmI, e15, e14, e13, e2, e7, m448a, m448b, m448c, m448d, m448e, wA, inV_zero], by simp [vmI, e15, e14, e13, e2, e7, m448a, m448b, m448c, m448d, m448e, wA, inV_zero], by simp [vmI, e15, e14, e13, e2, e7, m448a, m448b, m448c, m448d, m448e, wA, inV_zero], by simp [vmI, e15, e14, e13, e2, e7, m448a, m448b, m448c, m448d, m448e, wA, inV_zero], by simp [vmI, e15, e14, e13, e2, e7, m448a, m448b, m448c, m448d, m448e, wA, inV_zero], by simp [vmI, e15, e14, e13, e2, e7, m448a, m448b, m448c, m448d, m448e, wA, inV_zero], by simp [vmI, e15, e14, e13, e2, e7, m448a, m448b, m448c, m448d, m448e, wA, inV_zero], by simp [vmI, e15, e14, e13, e2, e7, m448a, m448b, m448c, m448d, m448e, wA, inV_zero], by simp [vmI, e15, e14, e13, e2, e7, m448a, m448b, m448c, m448d, m448e, wA, inV_zero], by simp [vmI, e15, e14, e13, e2, e7, m448a, m448b, m448c, m448d, m448e, wA, inV_zero], by simp [vmI, e15, e14, e13, e2, e7, m448a, m448b, m448c, m448d, m448e, wA, inV_zero], by simp [vmI, e15, e14, e13, e2, e7, m448a, m448b, m448c, m448d, m448e, wA, inV_zero], by simp [vmI, e15, e14, e13, e2, e7, m448a, m448b, m448c, m448d, m448e, wA, inV_zero]⟩ ?_
    clear e15 e14 e13 e2 e7 m448a m448b m448c m448d m448e
    rintro i σ ⟨hi, e21, e20, e15, e14, e13, e2, e9, m576a, m576b, m576c, m576d, m576e, e7, m448a, m448b, m448c, m448d, m448e⟩
    simp only [vmA, sN1, reduceIte, sN2, sN3, reduceCtorEq, sN4, sI1, sI2, sI3, sN5, sN6, e21, e20, e15, e14, e13, e2, e9, m576a, m576b, m576c, m576d, m576e, e7, m448a, m448b, m448c, m448d, m448e, wA, gO, List.length_map, inV_length]
    have hat := inV_at L ws[j]!.key t (i := i)
    refine ⟨fun h => ⟨h, by omega, ?_⟩, fun h => ?_⟩
    · simp only [hat (by omega)]
      refine ⟨fun hk => ⟨h, by omega, fun hd => ⟨by omega, ?_⟩, fun hd => ?_⟩, fun hk => ?_⟩
      · simp only [vmA, sN1, reduceIte, sN2, sN3, reduceCtorEq, sN4, sI1, sI2, sI3, sN5, sN6, e21, e20, e15, e14, e13, e2, e9, m576a, m576b, m576c, m576d, m576e, e7, m448a, m448b, m448c, m448d, m448e, wA, gO, List.length_map, inV_length, Option.bind_none, hat (show i < L.length by omega)]
        rw [wr (by omega)]
        refine ⟨by omega, i + 1, ⟨by omega, rfl, ?_⟩, by omega⟩
        rw [inV_kill _ _ _ (by omega) ⟨hk, hd⟩, hat (by omega), List.map_set]
        rfl
      · rw [wr (by omega)]
        refine ⟨i + 1, ⟨by omega, rfl, ?_⟩, by omega⟩
        rw [inV_skip _ _ _ (by omega) (fun x => hd x.2)]
      · rw [wr (by omega)]
        refine ⟨i + 1, ⟨by omega, rfl, ?_⟩, by omega⟩
        rw [inV_skip _ _ _ (by omega) (fun x => hk x.1)]
    · have hst := outV_step (vs := vs) (t := t) hw.ord (j := j) (by omega)
      obtain rfl : i = L.length := by omega
      rw [hL] at hst
      cases hgo : ws[j]!.gone
      all_goals simp only [vmA, sN1, reduceIte, sN2, sN3, reduceCtorEq, sN4, sI1, sI2, sI3, sN5, sN6, e21, e20, e15, e14, e13, e2, e9, m576a, m576b, m576c, m576d, m576e, e7, m448a, m448b, m448c, m448d, m448e, wA, gO, List.length_map, inV_length, hgo, Bool.not_true, Bool.not_false, Bool.false_eq_true, if_false, if_true, reown]
      · refine callD (f117 _ _ (by have := (hw.one ws[j]! (by rw [getElem!_pos ws j (by omega)]; exact List.getElem_mem _)).2.1.1; omega)) ?_
        simp only [vmA, sN1, reduceIte, sN2, sN3, reduceCtorEq, sN4, sI1, sI2, sI3, sN5, sN6, e21, e20, e15, e14, e13, e2, e9, m576a, m576b, m576c, m576d, m576e, e7, m448a, m448b, m448c, m448d, m448e, wA, gO, List.length_map, inV_length, hgo, Bool.not_true, Bool.not_false, Bool.false_eq_true, if_false, if_true, reown, Option.bind_none]
        rw [hgo, if_neg (by decide), ← inV_all] at hst
        have hll : (outV vs (ws.take (j + 1)) t).length = L.length + 1 := by rw [← hst, List.length_append, inV_length]; rfl
        rw [wr (by omega)]
        refine ⟨⟨by omega, by omega⟩, by simp [inV_length], (j + 1, γ + 1 + 1), ⟨by dsimp only; omega, rfl, ?_⟩, by dsimp only; omega⟩
        dsimp only
        rw [← hst, List.take_of_length_le (by simp [inV_length])]
        refine ⟨?_, rfl, ?_⟩
        · rw [List.length_append, List.length_append, List.length_map]; rfl
        · rw [List.map_append]; rfl
      · rw [hgo, if_pos rfl, List.append_nil, ← inV_all] at hst
        rw [wr (by omega)]
        refine ⟨(j + 1, γ + 1), ⟨by dsimp only; omega, rfl, ?_⟩, by dsimp only; omega⟩
        have hll : (outV vs (ws.take (j + 1)) t).length = L.length := by rw [← hst, inV_length]
        dsimp only
        rw [hst, List.take_of_length_le (by rw [List.length_map]; omega), List.length_map]
        exact ⟨rfl, rfl, rfl⟩
  · obtain rfl : j = ws.length := by omega
    rw [List.take_length]
    have hlo := outV_length vs ws t
    have hz := zT_map (outV vs ws t)
    rw [← hz]
    have f := f181 ((outV vs ws t).map zTV) cmpV ltV ltV_tr (fun x y _ _ => f182 x.2 y.2) (decV (outV_cmp hg hw ht)) (by rw [List.length_map]; omega)
    refine callR f ?_
    rintro _ _ ⟨rfl, ys, rfl, p1, q1⟩
    obtain ⟨r1, r2, r3⟩ := sortedV p1 q1
    rw [r3, wrV_uniq hg hw ht r1 r2]
    simp only [vmA, sN1, reduceIte, sN2, sN3, reduceCtorEq, sN4, sI1, sI2, sI3, sN5, sN6, e15, e14, e13, e2, e7, m448a, m448b, m448c, m448d, m448e, List.length_map]
    have hwl : (outV vs (ws.take ws.length) t).length = (wrV vs ws t).length := by rw [List.take_length, (wrV_perm vs ws t).length_eq]
    refine ⟨hwl, callR (f167 _) ?_⟩
    rintro _ _ ⟨rfl, rfl⟩
    simp only [vmA, sN1, reduceIte, sN2, sN3, reduceCtorEq, sN4, sI1, sI2, sI3, sN5, sN6, e15, e14, e13, e2, e7, m448a, m448b, m448c, m448d, m448e, List.length_map]
    (refine hQ _ ?_; simp only [vmA, sN1, reduceIte, sN2, sN3, reduceCtorEq, sN4, sI1, sI2, sI3, sN5, sN6, Tryz.f121, retG, resL, St.closeVs, St.closeV, e15, e14, e13, e2, e7, m448a, m448b, m448c, m448d, m448e, List.length_map, take_map_len])
