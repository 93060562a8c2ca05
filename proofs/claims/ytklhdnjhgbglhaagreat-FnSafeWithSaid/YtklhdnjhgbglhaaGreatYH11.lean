/- WALK, or plain laws for it: theorem f<k> says what function k returns. Conditions: none but those ahead of each theorem. -/
import Derived.Test.YtklhdnjhgbglhaaGreatYP4
import Derived.Test.YtklhdnjhgbglhaaGreatYFnM
import Derived.Test.YtklhdnjhgbglhaaGreatYLib6
set_option linter.unusedVariables false
set_option linter.unusedSimpArgs false
open Nat renaming reduceEqDiff → sN1, reduceAdd → sN2, reduceBEq → sN3, reduceLT → sN4, reduceMul → sN5, reduceLeDiff → sN6, reduceSub → sN7
open Int renaming reduceLE → sI1, reduceLT → sI2, reduceEq → sI3
open Go Go.Vm Go.Proofs
set_option maxRecDepth 100000
set_option maxHeartbeats 8000000
set_option maxHeartbeats 16000000
theorem map_froize_xA (ts : List Tx) : (ts.map xA).map froize = ts.map xA := by
  rw [List.map_map]
  exact List.map_congr_left fun t _ => rfl
theorem mod0 (a : AV) (f : AV → AV) : [a].modify 0 f = [f a] := rfl
theorem map_wk_gA (vs : List Ver) : (vs.map gA).map wk = vs.map gA := by
  rw [List.map_map]
  exact List.map_congr_left fun v _ => by
    show wk (gA v) = gA v
    have : (v.row.map vA).map wk = v.row.map vA := by
      rw [List.map_map]
      exact List.map_congr_left fun v _ => rfl
    simp only [gA, wk, wkL, wkL_eq, this]
theorem wk_iAs (xs : List Int) : (xs.map iA).map wk = xs.map iA := by
  rw [List.map_map]
  exact List.map_congr_left fun v _ => rfl
theorem wk_wA (w : Wr) : wk (wA w) = wA w := by
  have : (w.row.map vA).map wk = w.row.map vA := by
    rw [List.map_map]
    exact List.map_congr_left fun v _ => rfl
  simp only [wA, wk, wkL, wkL_eq, this]
theorem wk_wAs (ws : List Wr) : (ws.map wA).map wk = ws.map wA := by
  rw [List.map_map]
  exact List.map_congr_left fun w _ => wk_wA w
theorem f129n (xs : List Wr) (key : Int) (hl : xs.length ≤ 1048576) : Fx 129 [.fro none false (xs.map wA), .agg [.int .i64 key, .fro none true [], .bool true]] (.own 3 ((putL ⟨key, [], true⟩ xs false).map wA)) := by
  have h := f129 xs false ⟨key, [], true⟩ hl
  have e : List.map wk [.fro none false (xs.map wA), .agg [.int .i64 key, .fro none true [], .bool true]] = [.fro none false (xs.map wA), wA ⟨key, [], true⟩] := by
    simp only [List.map_cons, List.map_nil, wk, wkL, wkL_eq, wk_wAs, wA]
  exact ⟨h.1, DoesR.wkA (args := [.fro none false (xs.map wA), .agg [.int .i64 key, .fro none true [], .bool true]]) (by rw [e]; exact h.2) (by kernel_rfl) rfl⟩
theorem wk_xA (t : Tx) : wk (xA t) = xA t := by simp only [xA, wk, wkL, wkL_eq, wk_iAs, wk_wAs]
theorem wk_xAs (ts : List Tx) : (ts.map xA).map wk = ts.map xA := by
  rw [List.map_map]
  exact List.map_congr_left fun t _ => wk_xA t
theorem wkV_hF (h : Hs) : wk (froV (hF h)) = hF h := by simp only [hF, froV, froIn, List.map_cons, List.map_nil, map_froize_gA, map_froize_xA, wk, wkL, wkL_eq, map_wk_gA, wk_xAs]
def tP (T : AV) (t : Tx) : Prop := ∃ R W, T = .agg [.int .i64 t.st, .int .i64 t.bg, .int .i64 t.fn, R, W] ∧ (R = .own 1 (t.rd.map iA) ∨ ∃ c, R = .fro none c (t.rd.map iA)) ∧ (W = .own 3 (t.ws.map wA) ∨ ∃ c, W = .fro none c (t.ws.map wA))
theorem wkV_set {Z : List AV} {vs : List Ver} {ck : Int} {tx : List Tx} {i : Nat} {T : AV} {t : Tx} (hZ : Z.map froize = vs.map gA) (hT : wk (froize T) = xA t) : wk (froV (.agg [.own 4 Z, .int .i64 ck, .own 5 ((tx.map xA).set i T)])) = hF ⟨vs, ck, tx.set i t⟩ := by
  simp only [hF, froV, froIn, List.map_cons, List.map_nil, hZ, List.map_set, map_froize_xA, wk, wkL, wkL_eq, map_wk_gA, wk_xAs, hT]
theorem f70 (h : Hs) (m : Mv) (hp : houseP h) (hm : okR m.row) (hm2 : m.row.length ≤ 1048576) : FxR 70 [hA h, mA m] fun r l => ∃ (h' : Hs) (n : Int) (r0 : AV), r = .tup [r0, .int .i64 n] ∧ wk (froV r0) = hF h' ∧ houseP h' ∧ l = .und := by
  have ho := okH_P hp
  have hs := okH_smX hp
  have hl := hp.2.2.2.1
  refine fn_ofXM ⟨true, [100068, 100149, 100184], [(16, [], [0, 1, 2, 3, 4, 5, 6, 7, 8, 9, 10])]⟩ Tryz.func70 (by kernel_rfl) rfl (by kernel_rfl) (by kernel_rfl) (Nat.le_of_ble_eq_true rfl) rfl fun Q hQ => ?_
  simp only [tr_seq, tr_block, tr_loop, tr_cond, tr_skip, tr_exit, tr_ret, tr_reg]
  rw [tr_any 16 [(0, [], 0), (0, [], 1), (0, [], 2), (0, [], 3), (0, [], 4), (0, [], 5), (1, [0, 1, 2, 3, 4, 5], 6), (0, [], 7), (1, [0, 1, 2, 3, 7], 8), (0, [], 9), (1, [9], 10), (2, [], 0)] (by kernel_rfl)]
  simp only [codeA_nil, codeA_look, codeA_hard, codeA_fin, ordC_leaf, ordC_one, ordC_both, pickL, List.getElem?_toArray, List.getElem?_cons_zero, List.getElem?_cons_succ]
  simp only [vmA, sN1, reduceIte, sN2, sN3, reduceCtorEq, sN4, sI1, sI2, sI3, sN5, sN6, hA, mA]
  refine callD (f53 h ho) ?_
  simp only [vmA, sN1, reduceIte, sN2, sN3, reduceCtorEq, sN4, sI1, sI2, sI3, sN5, sN6, hA, mA, decide_eq_true hp]
  refine callR (f70F h ho.n ho.len (by omega) hs (by omega)) ?_
  rintro _ _ ⟨rfl, rfl⟩
  have once1 := fun oC oD oc oQ og => @once oC oD (Unit) (fun (u : Unit) σ => ((0 ≤ m.who ∧ m.who ≤ 3) ∧ (0 ≤ m.key ∧ m.key ≤ 4) ∧ rowP m.row ∧ (m.kind ≠ 3 → m.row = [])) ∧ σ.sl 2 = .ptr 128 1 0 0 ∧ (σ.en 128).live = true ∧ (σ.en 128).gen = 1 ∧ (σ.en 128).frz = false ∧ (σ.en 128).sz = 3 ∧ (σ.en 128).elems = [hA h] ∧ σ.sl 3 = .ptr 192 1 0 0 ∧ (σ.en 192).live = true ∧ (σ.en 192).gen = 1 ∧ (σ.en 192).frz = false ∧ (σ.en 192).sz = 4 ∧ (σ.en 192).elems = [mA m] ∧ σ.sl 4 = .ptr 256 1 0 0 ∧ (σ.en 256).live = true ∧ (σ.en 256).gen = 1 ∧ (σ.en 256).frz = false ∧ (σ.en 256).sz = 3 ∧ (σ.en 256).elems = [.agg [.fro none true [], .int .i64 0, .fro none true []]] ∧ σ.sl 6 = .ptr 384 1 0 0 ∧ (σ.en 384).live = true ∧ (σ.en 384).gen = 1 ∧ (σ.en 384).frz = false ∧ (σ.en 384).sz = 3 ∧ (σ.en 384).elems = [hF h] ∧ σ.sl 7 = .ptr 448 1 0 0 ∧ (σ.en 448).live = true ∧ (σ.en 448).gen = 1 ∧ (σ.en 448).frz = false ∧ (σ.en 448).sz = 5 ∧ (σ.en 448).elems = [xA h.tx[m.who.toNat]!]) oc oQ og
  apply once1
  · intro key
    simp only [vmC, sN1, reduceIte, sN2, sN3, reduceCtorEq, sN4, sI1, sI2, sI3, sN5, sN6, hA, mA, hF, xA, Option.bind_none, List.length_map]
    refine callD (f102 _ _ _) ?_
    simp only [vmC, sN1, reduceIte, sN2, sN3, reduceCtorEq, sN4, sI1, sI2, sI3, sN5, sN6, hA, mA, hF, xA, Option.bind_none, List.length_map]
    refine ⟨fun g1 => ?_, fun g1 => callD (f102 _ _ _) ?_⟩
    · (refine hQ _ ?_; simp only [vmA, sN1, reduceIte, sN2, sN3, reduceCtorEq, sN4, sI1, sI2, sI3, sN5, sN6, Tryz.f70, retGM, resL, closeVsM, closeVM, St.closeV, hA, mA, hF, Option.bind_none])
      exact ⟨h, 0, hF h, rfl, wkV_hF h, hp⟩
    simp only [vmC, sN1, reduceIte, sN2, sN3, reduceCtorEq, sN4, sI1, sI2, sI3, sN5, sN6, hA, mA, hF, xA, Option.bind_none, List.length_map]
    refine ⟨fun g2 => ?_, fun g2 => callD (f126 m.row false hm.1 hm.2) ?_⟩
    · (refine hQ _ ?_; simp only [vmA, sN1, reduceIte, sN2, sN3, reduceCtorEq, sN4, sI1, sI2, sI3, sN5, sN6, Tryz.f70, retGM, resL, closeVsM, closeVM, St.closeV, hA, mA, hF, Option.bind_none])
      exact ⟨h, 0, hF h, rfl, wkV_hF h, hp⟩
    simp only [vmC, sN1, reduceIte, sN2, sN3, reduceCtorEq, sN4, sI1, sI2, sI3, sN5, sN6, hA, mA, hF, xA, Option.bind_none, List.length_map]
    have e0 : ¬ 0 < (m.row.length : Int) → (m.kind ≠ 3 → m.row = []) := fun k0 _ => List.eq_nil_of_length_eq_zero (by omega)
    refine ⟨fun g3 => ?_, fun g3 => ⟨fun k3 => ⟨fun k0 => ?_, fun k0 => ⟨fun k4 => ⟨fun k2 => ⟨fun kk => ⟨fun kz => ?_, fun kz => ⟨⟨by omega, by omega⟩, by omega, ?_⟩⟩, fun kk => ⟨⟨by omega, by omega⟩, by omega, ?_⟩⟩, fun k2 => ⟨⟨by omega, by omega⟩, by omega, ?_⟩⟩, fun k4 => ⟨⟨by omega, by omega⟩, by omega, ?_⟩⟩⟩, fun k3 => ⟨fun k3' => absurd k3 k3', fun _ => ⟨⟨by omega, by omega⟩, by omega, ?_⟩⟩⟩⟩
    · (refine hQ _ ?_; simp only [vmA, sN1, reduceIte, sN2, sN3, reduceCtorEq, sN4, sI1, sI2, sI3, sN5, sN6, Tryz.f70, retGM, resL, closeVsM, closeVM, St.closeV, hA, mA, hF, Option.bind_none])
      exact ⟨h, 0, hF h, rfl, wkV_hF h, hp⟩
    · (refine hQ _ ?_; simp only [vmA, sN1, reduceIte, sN2, sN3, reduceCtorEq, sN4, sI1, sI2, sI3, sN5, sN6, Tryz.f70, retGM, resL, closeVsM, closeVM, St.closeV, hA, mA, hF, Option.bind_none])
      exact ⟨h, 0, hF h, rfl, wkV_hF h, hp⟩
    · (refine hQ _ ?_; simp only [vmA, sN1, reduceIte, sN2, sN3, reduceCtorEq, sN4, sI1, sI2, sI3, sN5, sN6, Tryz.f70, retGM, resL, closeVsM, closeVM, St.closeV, hA, mA, hF, Option.bind_none])
      exact ⟨h, 0, hF h, rfl, wkV_hF h, hp⟩
    · exact key (()) _ ⟨⟨g1, g2, g3, e0 k0⟩, by simp [vmI, hA, mA, hF, xA, kill_sl, kill_en], by simp [vmI, hA, mA, hF, xA, kill_sl, kill_en], by simp [vmI, hA, mA, hF, xA, kill_sl, kill_en], by simp [vmI, hA, mA, hF, xA, kill_sl, kill_en], by simp [vmI, hA, mA, hF, xA, kill_sl, kill_en], by simp [vmI, hA, mA, hF, xA, kill_sl, kill_en], by simp [vmI, hA, mA, hF, xA, kill_sl, kill_en], by simp [vmI, hA, mA, hF, xA, kill_sl, kill_en], by simp [vmI, hA, mA, hF, xA, kill_sl, kill_en], by simp [vmI, hA, mA, hF, xA, kill_sl, kill_en], by simp [vmI, hA, mA, hF, xA, kill_sl, kill_en], by simp [vmI, hA, mA, hF, xA, kill_sl, kill_en], by simp [vmI, hA, mA, hF, xA, kill_sl, kill_en], by simp [vmI, hA, mA, hF, xA, kill_sl, kill_en], by simp [vmI, hA, mA, hF, xA, kill_sl, kill_en], by simp [vmI, hA, mA, hF, xA, kill_sl, kill_en], by simp [vmI, hA, mA, hF, xA, kill_sl, kill_en], by simp [vmI, hA, mA, hF, xA, kill_sl, kill_en], by simp [vmI, hA, mA, hF, xA, kill_sl, kill_en], by simp [vmI, hA, mA, hF, xA, kill_sl, kill_en], by simp [vmI, hA, mA, hF, xA, kill_sl, kill_en], by simp [vmI, hA, mA, hF, xA, kill_sl, kill_en], by simp [vmI, hA, mA, hF, xA, kill_sl, kill_en], by simp [vmI, hA, mA, hF, xA, kill_sl, kill_en], by simp [vmI, hA, mA, hF, xA, kill_sl, kill_en], by simp [vmI, hA, mA, hF, xA, kill_sl, kill_en], by simp [vmI, hA, mA, hF, xA, kill_sl, kill_en], by simp [vmI, hA, mA, hF, xA, kill_sl, kill_en], by simp [vmI, hA, mA, hF, xA, kill_sl, kill_en], by simp [vmI, hA, mA, hF, xA, kill_sl, kill_en]⟩ _
    · exact key (()) _ ⟨⟨g1, g2, g3, e0 k0⟩, by simp [vmI, hA, mA, hF, xA, kill_sl, kill_en], by simp [vmI, hA, mA, hF, xA, kill_sl, kill_en], by simp [vmI, hA, mA, hF, xA, kill_sl, kill_en], by simp [vmI, hA, mA, hF, xA, kill_sl, kill_en], by simp [vmI, hA, mA, hF, xA, kill_sl, kill_en], by simp [vmI, hA, mA, hF, xA, kill_sl, kill_en], by simp [vmI, hA, mA, hF, xA, kill_sl, kill_en], by simp [vmI, hA, mA, hF, xA, kill_sl, kill_en], by simp [vmI, hA, mA, hF, xA, kill_sl, kill_en], by simp [vmI, hA, mA, hF, xA, kill_sl, kill_en], by simp [vmI, hA, mA, hF, xA, kill_sl, kill_en], by simp [vmI, hA, mA, hF, xA, kill_sl, kill_en], by simp [vmI, hA, mA, hF, xA, kill_sl, kill_en], by simp [vmI, hA, mA, hF, xA, kill_sl, kill_en], by simp [vmI, hA, mA, hF, xA, kill_sl, kill_en], by simp [vmI, hA, mA, hF, xA, kill_sl, kill_en], by simp [vmI, hA, mA, hF, xA, kill_sl, kill_en], by simp [vmI, hA, mA, hF, xA, kill_sl, kill_en], by simp [vmI, hA, mA, hF, xA, kill_sl, kill_en], by simp [vmI, hA, mA, hF, xA, kill_sl, kill_en], by simp [vmI, hA, mA, hF, xA, kill_sl, kill_en], by simp [vmI, hA, mA, hF, xA, kill_sl, kill_en], by simp [vmI, hA, mA, hF, xA, kill_sl, kill_en], by simp [vmI, hA, mA, hF, xA, kill_sl, kill_en], by simp [vmI, hA, mA, hF, xA, kill_sl, kill_en], by simp [vmI, hA, mA, hF, xA, kill_sl, kill_en], by simp [vmI, hA, mA, hF, xA, kill_sl, kill_en], by simp [vmI, hA, mA, hF, xA, kill_sl, kill_en], by simp [vmI, hA, mA, hF, xA, kill_sl, kill_en], by simp [vmI, hA, mA, hF, xA, kill_sl, kill_en]⟩ _
    · exact key (()) _ ⟨⟨g1, g2, g3, e0 k0⟩, by simp [vmI, hA, mA, hF, xA, kill_sl, kill_en], by simp [vmI, hA, mA, hF, xA, kill_sl, kill_en], by simp [vmI, hA, mA, hF, xA, kill_sl, kill_en], by simp [vmI, hA, mA, hF, xA, kill_sl, kill_en], by simp [vmI, hA, mA, hF, xA, kill_sl, kill_en], by simp [vmI, hA, mA, hF, xA, kill_sl, kill_en], by simp [vmI, hA, mA, hF, xA, kill_sl, kill_en], by simp [vmI, hA, mA, hF, xA, kill_sl, kill_en], by simp [vmI, hA, mA, hF, xA, kill_sl, kill_en], by simp [vmI, hA, mA, hF, xA, kill_sl, kill_en], by simp [vmI, hA, mA, hF, xA, kill_sl, kill_en], by simp [vmI, hA, mA, hF, xA, kill_sl, kill_en], by simp [vmI, hA, mA, hF, xA, kill_sl, kill_en], by simp [vmI, hA, mA, hF, xA, kill_sl, kill_en], by simp [vmI, hA, mA, hF, xA, kill_sl, kill_en], by simp [vmI, hA, mA, hF, xA, kill_sl, kill_en], by simp [vmI, hA, mA, hF, xA, kill_sl, kill_en], by simp [vmI, hA, mA, hF, xA, kill_sl, kill_en], by simp [vmI, hA, mA, hF, xA, kill_sl, kill_en], by simp [vmI, hA, mA, hF, xA, kill_sl, kill_en], by simp [vmI, hA, mA, hF, xA, kill_sl, kill_en], by simp [vmI, hA, mA, hF, xA, kill_sl, kill_en], by simp [vmI, hA, mA, hF, xA, kill_sl, kill_en], by simp [vmI, hA, mA, hF, xA, kill_sl, kill_en], by simp [vmI, hA, mA, hF, xA, kill_sl, kill_en], by simp [vmI, hA, mA, hF, xA, kill_sl, kill_en], by simp [vmI, hA, mA, hF, xA, kill_sl, kill_en], by simp [vmI, hA, mA, hF, xA, kill_sl, kill_en], by simp [vmI, hA, mA, hF, xA, kill_sl, kill_en], by simp [vmI, hA, mA, hF, xA, kill_sl, kill_en]⟩ _
    · exact key (()) _ ⟨⟨g1, g2, g3, e0 k0⟩, by simp [vmI, hA, mA, hF, xA, kill_sl, kill_en], by simp [vmI, hA, mA, hF, xA, kill_sl, kill_en], by simp [vmI, hA, mA, hF, xA, kill_sl, kill_en], by simp [vmI, hA, mA, hF, xA, kill_sl, kill_en], by simp [vmI, hA, mA, hF, xA, kill_sl, kill_en], by simp [vmI, hA, mA, hF, xA, kill_sl, kill_en], by simp [vmI, hA, mA, hF, xA, kill_sl, kill_en], by simp [vmI, hA, mA, hF, xA, kill_sl, kill_en], by simp [vmI, hA, mA, hF, xA, kill_sl, kill_en], by simp [vmI, hA, mA, hF, xA, kill_sl, kill_en], by simp [vmI, hA, mA, hF, xA, kill_sl, kill_en], by simp [vmI, hA, mA, hF, xA, kill_sl, kill_en], by simp [vmI, hA, mA, hF, xA, kill_sl, kill_en], by simp [vmI, hA, mA, hF, xA, kill_sl, kill_en], by simp [vmI, hA, mA, hF, xA, kill_sl, kill_en], by simp [vmI, hA, mA, hF, xA, kill_sl, kill_en], by simp [vmI, hA, mA, hF, xA, kill_sl, kill_en], by simp [vmI, hA, mA, hF, xA, kill_sl, kill_en], by simp [vmI, hA, mA, hF, xA, kill_sl, kill_en], by simp [vmI, hA, mA, hF, xA, kill_sl, kill_en], by simp [vmI, hA, mA, hF, xA, kill_sl, kill_en], by simp [vmI, hA, mA, hF, xA, kill_sl, kill_en], by simp [vmI, hA, mA, hF, xA, kill_sl, kill_en], by simp [vmI, hA, mA, hF, xA, kill_sl, kill_en], by simp [vmI, hA, mA, hF, xA, kill_sl, kill_en], by simp [vmI, hA, mA, hF, xA, kill_sl, kill_en], by simp [vmI, hA, mA, hF, xA, kill_sl, kill_en], by simp [vmI, hA, mA, hF, xA, kill_sl, kill_en], by simp [vmI, hA, mA, hF, xA, kill_sl, kill_en], by simp [vmI, hA, mA, hF, xA, kill_sl, kill_en]⟩ _
    · exact key (()) _ ⟨⟨g1, g2, g3, fun h => absurd k3 h⟩, by simp [vmI, hA, mA, hF, xA, kill_sl, kill_en], by simp [vmI, hA, mA, hF, xA, kill_sl, kill_en], by simp [vmI, hA, mA, hF, xA, kill_sl, kill_en], by simp [vmI, hA, mA, hF, xA, kill_sl, kill_en], by simp [vmI, hA, mA, hF, xA, kill_sl, kill_en], by simp [vmI, hA, mA, hF, xA, kill_sl, kill_en], by simp [vmI, hA, mA, hF, xA, kill_sl, kill_en], by simp [vmI, hA, mA, hF, xA, kill_sl, kill_en], by simp [vmI, hA, mA, hF, xA, kill_sl, kill_en], by simp [vmI, hA, mA, hF, xA, kill_sl, kill_en], by simp [vmI, hA, mA, hF, xA, kill_sl, kill_en], by simp [vmI, hA, mA, hF, xA, kill_sl, kill_en], by simp [vmI, hA, mA, hF, xA, kill_sl, kill_en], by simp [vmI, hA, mA, hF, xA, kill_sl, kill_en], by simp [vmI, hA, mA, hF, xA, kill_sl, kill_en], by simp [vmI, hA, mA, hF, xA, kill_sl, kill_en], by simp [vmI, hA, mA, hF, xA, kill_sl, kill_en], by simp [vmI, hA, mA, hF, xA, kill_sl, kill_en], by simp [vmI, hA, mA, hF, xA, kill_sl, kill_en], by simp [vmI, hA, mA, hF, xA, kill_sl, kill_en], by simp [vmI, hA, mA, hF, xA, kill_sl, kill_en], by simp [vmI, hA, mA, hF, xA, kill_sl, kill_en], by simp [vmI, hA, mA, hF, xA, kill_sl, kill_en], by simp [vmI, hA, mA, hF, xA, kill_sl, kill_en], by simp [vmI, hA, mA, hF, xA, kill_sl, kill_en], by simp [vmI, hA, mA, hF, xA, kill_sl, kill_en], by simp [vmI, hA, mA, hF, xA, kill_sl, kill_en], by simp [vmI, hA, mA, hF, xA, kill_sl, kill_en], by simp [vmI, hA, mA, hF, xA, kill_sl, kill_en], by simp [vmI, hA, mA, hF, xA, kill_sl, kill_en]⟩ _
  rintro u σ ⟨hg, e2, m128a, m128b, m128c, m128d, m128e, e3, m192a, m192b, m192c, m192d, m192e, e4, m256a, m256b, m256c, m256d, m256e, e6, m384a, m384b, m384c, m384d, m384e, e7, m448a, m448b, m448c, m448d, m448e⟩
  obtain ⟨g1, g2, g3, g4⟩ := hg
  refine WT_mid (fun (zz : List AV × Int × AV × List Ver × Tx) σ => (zz.1.map froize = zz.2.2.2.1.map gA ∧ tP zz.2.2.1 zz.2.2.2.2 ∧ houseP ⟨zz.2.2.2.1, zz.2.1, h.tx.set m.who.toNat zz.2.2.2.2⟩) ∧ σ.sl 3 = .ptr 192 1 0 0 ∧ (σ.en 192).live = true ∧ (σ.en 192).gen = 1 ∧ (σ.en 192).frz = false ∧ (σ.en 192).sz = 4 ∧ (σ.en 192).elems = [mA m] ∧ σ.sl 4 = .ptr 256 1 0 0 ∧ (σ.en 256).live = true ∧ (σ.en 256).gen = 1 ∧ (σ.en 256).frz = false ∧ (σ.en 256).sz = 3 ∧ (σ.en 256).elems = [.agg [.fro none true [], .int .i64 0, .fro none true []]] ∧ σ.sl 6 = .ptr 384 1 0 0 ∧ (σ.en 384).live = true ∧ (σ.en 384).gen = 1 ∧ (σ.en 384).frz = false ∧ (σ.en 384).sz = 3 ∧ (σ.en 384).elems = [.agg [.own 4 zz.1, .int .i64 zz.2.1, .own 5 (h.tx.map xA)]] ∧ σ.sl 7 = .ptr 448 1 0 0 ∧ (σ.en 448).live = true ∧ (σ.en 448).gen = 1 ∧ (σ.en 448).frz = false ∧ (σ.en 448).sz = 5 ∧ (σ.en 448).elems = [zz.2.2.1]) ?_ ?_
  · have hi : m.who.toNat < 4 := by omega
    have hx : txP h.tx[m.who.toNat]! h.ck := hp.2.2.2.2.1 _ hi
    have hmem : h.tx[m.who.toNat]! ∈ h.tx := by rw [getElem!_pos h.tx _ (by omega)]; exact List.getElem_mem _
    have hsm := hs _ hmem
    have hok := okX_P hx hsm
    have hck := hp.2.1
    have hopen : h.tx[m.who.toNat]!.st = 1 → h.tx[m.who.toNat]!.fn = 0 ∧ txB h.tx[m.who.toNat]! h.ck := fun h1 => by
      rcases hx with ⟨a, _⟩ | ⟨a, _⟩ | ⟨_, a⟩
      · omega
      · omega
      · exact a
    have hkind : m.kind = 1 ∨ m.kind = 2 ∨ m.kind = 3 ∨ m.kind = 4 ∨ m.kind = 5 ∨ m.kind = 6 ∨ (m.kind ≠ 1 ∧ m.kind ≠ 2 ∧ m.kind ≠ 3 ∧ m.kind ≠ 4 ∧ m.kind ≠ 5 ∧ m.kind ≠ 6) := by omega
    rcases hkind with hk | hk | hk | hk | hk | hk | ⟨k1, k2, k3, k4, k5, k6⟩
    · simp only [vmA, sN1, reduceIte, sN2, sN3, reduceCtorEq, sN4, sI1, sI2, sI3, sN5, sN6, e2, m128a, m128b, m128c, m128d, m128e, e3, m192a, m192b, m192c, m192d, m192e, e4, m256a, m256b, m256c, m256d, m256e, e6, m384a, m384b, m384c, m384d, m384e, e7, m448a, m448b, m448c, m448d, m448e, hA, mA, hF, xA, Option.bind_none, List.length_map, hk]
      refine ⟨fun h0 => ?_, fun h0 => ⟨fun h1 => ?_, fun h1 => ?_⟩⟩
      · refine ⟨(h.vs.map gA, h.ck, _, h.vs, ⟨1, h.ck, 0, [], []⟩), ⟨map_froize_gA _, ⟨_, _, rfl, .inr ⟨true, rfl⟩, .inr ⟨true, rfl⟩⟩, house_set hp hi (.inr (.inr ⟨.inl rfl, rfl, ⟨hck.1, Int.le_refl _⟩, ?_, ?_⟩)) (by show (1 : Int) ≠ 2; decide)⟩, rfl, rfl⟩
        · intro i hi; exact absurd hi (Nat.not_lt_zero _)
        · intro i hi; exact absurd hi (Nat.not_lt_zero _)
      · (refine hQ _ ?_; simp only [vmA, sN1, reduceIte, sN2, sN3, reduceCtorEq, sN4, sI1, sI2, sI3, sN5, sN6, Tryz.f70, retGM, resL, closeVsM, closeVM, St.closeV, e2, m128a, m128b, m128c, m128d, m128e, e3, m192a, m192b, m192c, m192d, m192e, e4, m256a, m256b, m256c, m256d, m256e, e6, m384a, m384b, m384c, m384d, m384e, e7, m448a, m448b, m448c, m448d, m448e, hA, mA, hF, Option.bind_none])
        exact ⟨h, 0, hF h, rfl, wkV_hF h, hp⟩
      · (refine hQ _ ?_; simp only [vmA, sN1, reduceIte, sN2, sN3, reduceCtorEq, sN4, sI1, sI2, sI3, sN5, sN6, Tryz.f70, retGM, resL, closeVsM, closeVM, St.closeV, e2, m128a, m128b, m128c, m128d, m128e, e3, m192a, m192b, m192c, m192d, m192e, e4, m256a, m256b, m256c, m256d, m256e, e6, m384a, m384b, m384c, m384d, m384e, e7, m448a, m448b, m448c, m448d, m448e, hA, mA, hF, Option.bind_none])
        exact ⟨h, 0, hF h, rfl, wkV_hF h, hp⟩
    · simp only [vmA, sN1, reduceIte, sN2, sN3, reduceCtorEq, sN4, sI1, sI2, sI3, sN5, sN6, e2, m128a, m128b, m128c, m128d, m128e, e3, m192a, m192b, m192c, m192d, m192e, e4, m256a, m256b, m256c, m256d, m256e, e6, m384a, m384b, m384c, m384d, m384e, e7, m448a, m448b, m448c, m448d, m448e, hA, mA, hF, xA, Option.bind_none, List.length_map, hk]
      refine ⟨fun h1 => ?_, fun h1 => callD (f127x h.tx[m.who.toNat]! m.key (by have := hsm.2.1; omega)) ?_⟩
      · (refine hQ _ ?_; simp only [vmA, sN1, reduceIte, sN2, sN3, reduceCtorEq, sN4, sI1, sI2, sI3, sN5, sN6, Tryz.f70, retGM, resL, closeVsM, closeVM, St.closeV, e2, m128a, m128b, m128c, m128d, m128e, e3, m192a, m192b, m192c, m192d, m192e, e4, m256a, m256b, m256c, m256d, m256e, e6, m384a, m384b, m384c, m384d, m384e, e7, m448a, m448b, m448c, m448d, m448e, hA, mA, hF, Option.bind_none])
        exact ⟨h, 0, hF h, rfl, wkV_hF h, hp⟩
      · obtain ⟨hfn, hb⟩ := hopen h1
        simp only [vmA, sN1, reduceIte, sN2, sN3, reduceCtorEq, sN4, sI1, sI2, sI3, sN5, sN6, e2, m128a, m128b, m128c, m128d, m128e, e3, m192a, m192b, m192c, m192d, m192e, e4, m256a, m256b, m256c, m256d, m256e, e6, m384a, m384b, m384c, m384d, m384e, e7, m448a, m448b, m448c, m448d, m448e, hA, mA, hF, xA, Option.bind_none, List.length_map, hk]
        refine ⟨fun hlt => callD (f128 h.tx[m.who.toNat]!.rd false m.key hsm.1) ?_, fun hge => ?_⟩
        · simp only [vmA, sN1, reduceIte, sN2, sN3, reduceCtorEq, sN4, sI1, sI2, sI3, sN5, sN6, e2, m128a, m128b, m128c, m128d, m128e, e3, m192a, m192b, m192c, m192d, m192e, e4, m256a, m256b, m256c, m256d, m256e, e6, m384a, m384b, m384c, m384d, m384e, e7, m448a, m448b, m448c, m448d, m448e, hA, mA, hF, xA, Option.bind_none, List.length_map, hk]
          exact ⟨(h.vs.map gA, h.ck, _, h.vs, { h.tx[m.who.toNat]! with rd := noteL m.key h.tx[m.who.toNat]!.rd false }), ⟨map_froize_gA _, ⟨_, _, rfl, .inl rfl, .inr ⟨false, rfl⟩⟩, house_set hp hi (.inr (.inr ⟨.inl h1, hfn, hb.1, note_ri hb.2.1 g2, hb.2.2⟩)) (by show h.tx[m.who.toNat]!.st ≠ 2; omega)⟩, rfl, rfl⟩
        · exact ⟨(h.vs.map gA, h.ck, _, h.vs, h.tx[m.who.toNat]!), ⟨map_froize_gA _, ⟨_, _, rfl, .inr ⟨false, rfl⟩, .inr ⟨false, rfl⟩⟩, house_set hp hi hx (by show h.tx[m.who.toNat]!.st ≠ 2; omega)⟩, rfl, rfl⟩
    · simp only [vmA, sN1, reduceIte, sN2, sN3, reduceCtorEq, sN4, sI1, sI2, sI3, sN5, sN6, e2, m128a, m128b, m128c, m128d, m128e, e3, m192a, m192b, m192c, m192d, m192e, e4, m256a, m256b, m256c, m256d, m256e, e6, m384a, m384b, m384c, m384d, m384e, e7, m448a, m448b, m448c, m448d, m448e, hA, mA, hF, xA, Option.bind_none, List.length_map, hk]
      refine ⟨fun h1 => ?_, fun h1 => callD (f105 m.row false hm2) ?_⟩
      · (refine hQ _ ?_; simp only [vmA, sN1, reduceIte, sN2, sN3, reduceCtorEq, sN4, sI1, sI2, sI3, sN5, sN6, Tryz.f70, retGM, resL, closeVsM, closeVM, St.closeV, e2, m128a, m128b, m128c, m128d, m128e, e3, m192a, m192b, m192c, m192d, m192e, e4, m256a, m256b, m256c, m256d, m256e, e6, m384a, m384b, m384c, m384d, m384e, e7, m448a, m448b, m448c, m448d, m448e, hA, mA, hF, Option.bind_none])
        exact ⟨h, 0, hF h, rfl, wkV_hF h, hp⟩
      · obtain ⟨hfn, hb⟩ := hopen h1
        have hh := house_set (t := { h.tx[m.who.toNat]! with ws := putL ⟨m.key, m.row, false⟩ h.tx[m.who.toNat]!.ws false }) hp hi (.inr (.inr ⟨.inl h1, hfn, hb.1, hb.2.1, put_wrs hb.2.2 ⟨g2, g3, by simp⟩⟩)) (by show h.tx[m.who.toNat]!.st ≠ 2; omega)
        simp only [vmA, sN1, reduceIte, sN2, sN3, reduceCtorEq, sN4, sI1, sI2, sI3, sN5, sN6, e2, m128a, m128b, m128c, m128d, m128e, e3, m192a, m192b, m192c, m192d, m192e, e4, m256a, m256b, m256c, m256d, m256e, e6, m384a, m384b, m384c, m384d, m384e, e7, m448a, m448b, m448c, m448d, m448e, hA, mA, hF, xA, Option.bind_none, List.length_map, hk]
        refine callD (f129 h.tx[m.who.toNat]!.ws false ⟨m.key, m.row, false⟩ hsm.2.1) ?_
        cases hf : hasFro.hasFroL (List.map wA (putL ⟨m.key, m.row, false⟩ h.tx[m.who.toNat]!.ws false))
        · simp only [vmA, sN1, reduceIte, sN2, sN3, reduceCtorEq, sN4, sI1, sI2, sI3, sN5, sN6, e2, m128a, m128b, m128c, m128d, m128e, e3, m192a, m192b, m192c, m192d, m192e, e4, m256a, m256b, m256c, m256d, m256e, e6, m384a, m384b, m384c, m384d, m384e, e7, m448a, m448b, m448c, m448d, m448e, hA, mA, hF, xA, Option.bind_none, List.length_map, hk, behind_nf, hasFro, hf]
          exact ⟨(h.vs.map gA, h.ck, _, h.vs, _), ⟨map_froize_gA _, ⟨_, _, rfl, .inr ⟨false, rfl⟩, .inl rfl⟩, hh⟩, rfl, rfl⟩
        · simp only [vmA, sN1, reduceIte, sN2, sN3, reduceCtorEq, sN4, sI1, sI2, sI3, sN5, sN6, e2, m128a, m128b, m128c, m128d, m128e, e3, m192a, m192b, m192c, m192d, m192e, e4, m256a, m256b, m256c, m256d, m256e, e6, m384a, m384b, m384c, m384d, m384e, e7, m448a, m448b, m448c, m448d, m448e, hA, mA, hF, xA, Option.bind_none, List.length_map, hk, behind_yes, hasFro, hf, freezeL, lentOf]
          exact ⟨(h.vs.map gA, h.ck, _, h.vs, _), ⟨map_froize_gA _, ⟨_, _, rfl, .inr ⟨false, rfl⟩, .inl rfl⟩, hh⟩, rfl, rfl⟩
    · simp only [vmA, sN1, reduceIte, sN2, sN3, reduceCtorEq, sN4, sI1, sI2, sI3, sN5, sN6, e2, m128a, m128b, m128c, m128d, m128e, e3, m192a, m192b, m192c, m192d, m192e, e4, m256a, m256b, m256c, m256d, m256e, e6, m384a, m384b, m384c, m384d, m384e, e7, m448a, m448b, m448c, m448d, m448e, hA, mA, hF, xA, Option.bind_none, List.length_map, hk]
      refine ⟨fun h1 => ?_, fun h1 => callD (f129n h.tx[m.who.toNat]!.ws m.key hsm.2.1) ?_⟩
      · (refine hQ _ ?_; simp only [vmA, sN1, reduceIte, sN2, sN3, reduceCtorEq, sN4, sI1, sI2, sI3, sN5, sN6, Tryz.f70, retGM, resL, closeVsM, closeVM, St.closeV, e2, m128a, m128b, m128c, m128d, m128e, e3, m192a, m192b, m192c, m192d, m192e, e4, m256a, m256b, m256c, m256d, m256e, e6, m384a, m384b, m384c, m384d, m384e, e7, m448a, m448b, m448c, m448d, m448e, hA, mA, hF, Option.bind_none])
        exact ⟨h, 0, hF h, rfl, wkV_hF h, hp⟩
      · obtain ⟨hfn, hb⟩ := hopen h1
        have hh := house_set (t := { h.tx[m.who.toNat]! with ws := putL ⟨m.key, [], true⟩ h.tx[m.who.toNat]!.ws false }) hp hi (.inr (.inr ⟨.inl h1, hfn, hb.1, hb.2.1, put_wrs hb.2.2 ⟨g2, ⟨by simp, by simp⟩, by simp⟩⟩)) (by show h.tx[m.who.toNat]!.st ≠ 2; omega)
        cases hf : hasFro.hasFroL (List.map wA (putL ⟨m.key, [], true⟩ h.tx[m.who.toNat]!.ws false))
        · simp only [vmA, sN1, reduceIte, sN2, sN3, reduceCtorEq, sN4, sI1, sI2, sI3, sN5, sN6, e2, m128a, m128b, m128c, m128d, m128e, e3, m192a, m192b, m192c, m192d, m192e, e4, m256a, m256b, m256c, m256d, m256e, e6, m384a, m384b, m384c, m384d, m384e, e7, m448a, m448b, m448c, m448d, m448e, hA, mA, hF, xA, Option.bind_none, List.length_map, hk, behind_nf, hasFro, hf]
          exact ⟨(h.vs.map gA, h.ck, _, h.vs, _), ⟨map_froize_gA _, ⟨_, _, rfl, .inr ⟨false, rfl⟩, .inl rfl⟩, hh⟩, rfl, rfl⟩
        · simp only [vmA, sN1, reduceIte, sN2, sN3, reduceCtorEq, sN4, sI1, sI2, sI3, sN5, sN6, e2, m128a, m128b, m128c, m128d, m128e, e3, m192a, m192b, m192c, m192d, m192e, e4, m256a, m256b, m256c, m256d, m256e, e6, m384a, m384b, m384c, m384d, m384e, e7, m448a, m448b, m448c, m448d, m448e, hA, mA, hF, xA, Option.bind_none, List.length_map, hk, behind_yes, hasFro, hf, freezeL, lentOf]
          exact ⟨(h.vs.map gA, h.ck, _, h.vs, _), ⟨map_froize_gA _, ⟨_, _, rfl, .inr ⟨false, rfl⟩, .inl rfl⟩, hh⟩, rfl, rfl⟩
    · simp only [vmA, sN1, reduceIte, sN2, sN3, reduceCtorEq, sN4, sI1, sI2, sI3, sN5, sN6, e2, m128a, m128b, m128c, m128d, m128e, e3, m192a, m192b, m192c, m192d, m192e, e4, m256a, m256b, m256c, m256d, m256e, e6, m384a, m384b, m384c, m384d, m384e, e7, m448a, m448b, m448c, m448d, m448e, hA, mA, hF, xA, Option.bind_none, List.length_map, hk]
      refine ⟨fun h1 => ?_, fun h1 => callR (f130 h h.tx[m.who.toNat]! ho hok) ?_⟩
      · (refine hQ _ ?_; simp only [vmA, sN1, reduceIte, sN2, sN3, reduceCtorEq, sN4, sI1, sI2, sI3, sN5, sN6, Tryz.f70, retGM, resL, closeVsM, closeVM, St.closeV, e2, m128a, m128b, m128c, m128d, m128e, e3, m192a, m192b, m192c, m192d, m192e, e4, m256a, m256b, m256c, m256d, m256e, e6, m384a, m384b, m384c, m384d, m384e, e7, m448a, m448b, m448c, m448d, m448e, hA, mA, hF, Option.bind_none])
        exact ⟨h, 0, hF h, rfl, wkV_hF h, hp⟩
      · obtain ⟨hfn, hb⟩ := hopen h1
        rintro _ _ ⟨⟨b, rfl⟩, rfl⟩
        cases b
        · simp only [vmA, sN1, reduceIte, sN2, sN3, reduceCtorEq, sN4, sI1, sI2, sI3, sN5, sN6, e2, m128a, m128b, m128c, m128d, m128e, e3, m192a, m192b, m192c, m192d, m192e, e4, m256a, m256b, m256c, m256d, m256e, e6, m384a, m384b, m384c, m384d, m384e, e7, m448a, m448b, m448c, m448d, m448e, hA, mA, hF, xA, Option.bind_none, List.length_map, hk]
          rw [wr (by omega)]
          have hv := (verP_iff.1 hp.1)
          have hwl : h.tx[m.who.toNat]!.ws.length ≤ 1000 := by
            have h5 := (wrs_of hb.2.2).1
            have := wrsP_key hb.2.2
            rcases Nat.lt_or_ge h.tx[m.who.toNat]!.ws.length 6 with g | g
            · omega
            · exfalso
              have h6 := this 5 (by omega)
              rw [getElem!_pos _ 5 (by omega)] at h6
              have := (h5 _ (List.getElem_mem (show 5 < h.tx[m.who.toNat]!.ws.length by omega))).1
              omega
          refine callR (f131 h.vs h.tx[m.who.toNat]!.ws false false (h.ck + 1) (by omega) ho.row ho.len hwl hok.2.2 hsm.2.2) ?_
          rintro _ _ ⟨⟨Z, b, rfl, hZb⟩, rfl⟩
          cases b
          · rcases hZb with ⟨_, rfl⟩ | ⟨e, _⟩
            rotate_left
            · cases e
            simp only [vmA, sN1, reduceIte, sN2, sN3, reduceCtorEq, sN4, sI1, sI2, sI3, sN5, sN6, e2, m128a, m128b, m128c, m128d, m128e, e3, m192a, m192b, m192c, m192d, m192e, e4, m256a, m256b, m256c, m256d, m256e, e6, m384a, m384b, m384c, m384d, m384e, e7, m448a, m448b, m448c, m448d, m448e, hA, mA, hF, xA, Option.bind_none, List.length_map, hk]
            (refine hQ _ ?_; simp only [vmA, sN1, reduceIte, sN2, sN3, reduceCtorEq, sN4, sI1, sI2, sI3, sN5, sN6, Tryz.f70, retGM, resL, closeVsM, closeVM, St.closeV, e2, m128a, m128b, m128c, m128d, m128e, e3, m192a, m192b, m192c, m192d, m192e, e4, m256a, m256b, m256c, m256d, m256e, e6, m384a, m384b, m384c, m384d, m384e, e7, m448a, m448b, m448c, m448d, m448e, hA, mA, hF, Option.bind_none])
            exact ⟨h, 0, hF h, rfl, wkV_hF h, hp⟩
          · rcases hZb with ⟨e, _⟩ | ⟨_, hZ, _, _, ht40, _, hZl⟩
            · cases e
            have hZn : (wrtAll h.tx[m.who.toNat]!.ws (h.ck + 1) h.vs).length ≤ 60 := by
              have h9 : Z.length = (wrtAll h.tx[m.who.toNat]!.ws (h.ck + 1) h.vs).length := by simpa using congrArg List.length hZ
              omega
            have hh := house_end hp hi h1 ht40.2 hZn
            cases hf : hasFro.hasFroL Z
            · simp only [vmA, sN1, reduceIte, sN2, sN3, reduceCtorEq, sN4, sI1, sI2, sI3, sN5, sN6, e2, m128a, m128b, m128c, m128d, m128e, e3, m192a, m192b, m192c, m192d, m192e, e4, m256a, m256b, m256c, m256d, m256e, e6, m384a, m384b, m384c, m384d, m384e, e7, m448a, m448b, m448c, m448d, m448e, hA, mA, hF, xA, Option.bind_none, List.length_map, hk, behind_nf, hasFro, hf, List.take_length]
              rw [wr (by omega)]
              exact ⟨(Z, h.ck + 1, _, _, { h.tx[m.who.toNat]! with st := 2, fn := h.ck + 1 }), ⟨hZ, ⟨_, _, rfl, .inr ⟨false, rfl⟩, .inr ⟨false, rfl⟩⟩, hh⟩, rfl, rfl⟩
            · simp only [vmA, sN1, reduceIte, sN2, sN3, reduceCtorEq, sN4, sI1, sI2, sI3, sN5, sN6, e2, m128a, m128b, m128c, m128d, m128e, e3, m192a, m192b, m192c, m192d, m192e, e4, m256a, m256b, m256c, m256d, m256e, e6, m384a, m384b, m384c, m384d, m384e, e7, m448a, m448b, m448c, m448d, m448e, hA, mA, hF, xA, Option.bind_none, List.length_map, hk, behind_yes, hasFro, hf, freezeL, lentOf, List.take_length]
              rw [wr (by omega)]
              exact ⟨(Z, h.ck + 1, _, _, { h.tx[m.who.toNat]! with st := 2, fn := h.ck + 1 }), ⟨hZ, ⟨_, _, rfl, .inr ⟨false, rfl⟩, .inr ⟨false, rfl⟩⟩, hh⟩, rfl, rfl⟩
        · simp only [vmA, sN1, reduceIte, sN2, sN3, reduceCtorEq, sN4, sI1, sI2, sI3, sN5, sN6, e2, m128a, m128b, m128c, m128d, m128e, e3, m192a, m192b, m192c, m192d, m192e, e4, m256a, m256b, m256c, m256d, m256e, e6, m384a, m384b, m384c, m384d, m384e, e7, m448a, m448b, m448c, m448d, m448e, hA, mA, hF, xA, Option.bind_none, List.length_map, hk, mod0, List.set_cons_zero, List.set_cons_succ, leaves, map_froize_iA, map_froize_wA]
          refine ⟨⟨by omega, by omega⟩, by omega, ?_⟩
          (refine hQ _ ?_; simp only [vmA, sN1, reduceIte, sN2, sN3, reduceCtorEq, sN4, sI1, sI2, sI3, sN5, sN6, Tryz.f70, retGM, resL, closeVsM, closeVM, St.closeV, e2, m128a, m128b, m128c, m128d, m128e, e3, m192a, m192b, m192c, m192d, m192e, e4, m256a, m256b, m256c, m256d, m256e, e6, m384a, m384b, m384c, m384d, m384e, e7, m448a, m448b, m448c, m448d, m448e, hA, mA, hF, Option.bind_none])
          exact ⟨⟨h.vs, h.ck, h.tx.set m.who.toNat { h.tx[m.who.toNat]! with st := 3 }⟩, _, _, rfl, wkV_set (map_froize_gA _) (wk_xA { h.tx[m.who.toNat]! with st := 3 }), house_set hp hi (.inr (.inr ⟨.inr rfl, hfn, hb⟩)) (by show (3 : Int) ≠ 2; decide)⟩
    · simp only [vmA, sN1, reduceIte, sN2, sN3, reduceCtorEq, sN4, sI1, sI2, sI3, sN5, sN6, e2, m128a, m128b, m128c, m128d, m128e, e3, m192a, m192b, m192c, m192d, m192e, e4, m256a, m256b, m256c, m256d, m256e, e6, m384a, m384b, m384c, m384d, m384e, e7, m448a, m448b, m448c, m448d, m448e, hA, mA, hF, xA, Option.bind_none, List.length_map, hk]
      refine ⟨fun h1 => ?_, fun h1 => ?_⟩
      · (refine hQ _ ?_; simp only [vmA, sN1, reduceIte, sN2, sN3, reduceCtorEq, sN4, sI1, sI2, sI3, sN5, sN6, Tryz.f70, retGM, resL, closeVsM, closeVM, St.closeV, e2, m128a, m128b, m128c, m128d, m128e, e3, m192a, m192b, m192c, m192d, m192e, e4, m256a, m256b, m256c, m256d, m256e, e6, m384a, m384b, m384c, m384d, m384e, e7, m448a, m448b, m448c, m448d, m448e, hA, mA, hF, Option.bind_none])
        exact ⟨h, 0, hF h, rfl, wkV_hF h, hp⟩
      · obtain ⟨hfn, hb⟩ := hopen h1
        exact ⟨(h.vs.map gA, h.ck, _, h.vs, { h.tx[m.who.toNat]! with st := 3 }), ⟨map_froize_gA _, ⟨_, _, rfl, .inr ⟨false, rfl⟩, .inr ⟨false, rfl⟩⟩, house_set hp hi (.inr (.inr ⟨.inr rfl, hfn, hb⟩)) (by show (3 : Int) ≠ 2; decide)⟩, rfl, rfl⟩
    · have e1 := eq_false k1
      have e2' := eq_false k2
      have e3' := eq_false k3
      have e4' := eq_false k4
      have e5' := eq_false k5
      have e6' := eq_false k6
      simp only [vmA, sN1, reduceIte, sN2, sN3, reduceCtorEq, sN4, sI1, sI2, sI3, sN5, sN6, e2, m128a, m128b, m128c, m128d, m128e, e3, m192a, m192b, m192c, m192d, m192e, e4, m256a, m256b, m256c, m256d, m256e, e6, m384a, m384b, m384c, m384d, m384e, e7, m448a, m448b, m448c, m448d, m448e, hA, mA, hF, xA, Option.bind_none, List.length_map, e1, e2', e3', e4', e5', e6']
      refine ⟨fun h1 => ?_, fun h1 => ?_⟩
      · (refine hQ _ ?_; simp only [vmA, sN1, reduceIte, sN2, sN3, reduceCtorEq, sN4, sI1, sI2, sI3, sN5, sN6, Tryz.f70, retGM, resL, closeVsM, closeVM, St.closeV, e2, m128a, m128b, m128c, m128d, m128e, e3, m192a, m192b, m192c, m192d, m192e, e4, m256a, m256b, m256c, m256d, m256e, e6, m384a, m384b, m384c, m384d, m384e, e7, m448a, m448b, m448c, m448d, m448e, hA, mA, hF, Option.bind_none])
        exact ⟨h, 0, hF h, rfl, wkV_hF h, hp⟩
      · (refine hQ _ ?_; simp only [vmA, sN1, reduceIte, sN2, sN3, reduceCtorEq, sN4, sI1, sI2, sI3, sN5, sN6, Tryz.f70, retGM, resL, closeVsM, closeVM, St.closeV, e2, m128a, m128b, m128c, m128d, m128e, e3, m192a, m192b, m192c, m192d, m192e, e4, m256a, m256b, m256c, m256d, m256e, e6, m384a, m384b, m384c, m384d, m384e, e7, m448a, m448b, m448c, m448d, m448e, hA, mA, hF, Option.bind_none])
        exact ⟨h, 0, hF h, rfl, wkV_hF h, hp⟩
  clear e2 m128a m128b m128c m128d m128e e3 m192a m192b m192c m192d m192e e4 m256a m256b m256c m256d m256e e6 m384a m384b m384c m384d m384e e7 m448a m448b m448c m448d m448e
  rintro ⟨Z, ck, T, vs, t⟩ σ ⟨hx, e3, m192a, m192b, m192c, m192d, m192e, e4, m256a, m256b, m256c, m256d, m256e, e6, m384a, m384b, m384c, m384d, m384e, e7, m448a, m448b, m448c, m448d, m448e⟩
  try dsimp only at e3 m192a m192b m192c m192d m192e e4 m256a m256b m256c m256d m256e e6 m384a m384b m384c m384d m384e e7 m448a m448b m448c m448d m448e hx
  obtain ⟨hZ, ⟨R, W, rfl, hR, hW⟩, hp'⟩ := hx
  have fin : ∀ {R' W' : AV}, wk (froize R') = .fro none false (t.rd.map iA) → wk (froize W') = .fro none false (t.ws.map wA) → wk (froize (.agg [.int .i64 t.st, .int .i64 t.bg, .int .i64 t.fn, R', W'])) = xA t := fun h1 h2 => by
    simp only [froize, froizeL, wk, wkL, h1, h2, xA]
  rcases hR with rfl | ⟨cR, rfl⟩ <;> rcases hW with rfl | ⟨cW, rfl⟩
  all_goals (
    simp only [vmA, sN1, reduceIte, sN2, sN3, reduceCtorEq, sN4, sI1, sI2, sI3, sN5, sN6, e3, m192a, m192b, m192c, m192d, m192e, e4, m256a, m256b, m256c, m256d, m256e, e6, m384a, m384b, m384c, m384d, m384e, e7, m448a, m448b, m448c, m448d, m448e, hA, mA, hF, xA, Option.bind_none, List.length_map, mod0, List.set_cons_zero, List.set_cons_succ, leaves, map_froize_iA, map_froize_wA]
    refine ⟨⟨by omega, by omega⟩, by omega, ?_⟩
    (refine hQ _ ?_; simp only [vmA, sN1, reduceIte, sN2, sN3, reduceCtorEq, sN4, sI1, sI2, sI3, sN5, sN6, Tryz.f70, retGM, resL, closeVsM, closeVM, St.closeV, e3, m192a, m192b, m192c, m192d, m192e, e4, m256a, m256b, m256c, m256d, m256e, e6, m384a, m384b, m384c, m384d, m384e, e7, m448a, m448b, m448c, m448d, m448e, Option.bind_none])
    exact ⟨⟨vs, ck, h.tx.set m.who.toNat t⟩, _, _, rfl, wkV_set hZ (fin (by simp only [froize, wk, wkL_eq, wk_iAs]) (by simp only [froize, wk, wkL_eq, wk_wAs])), hp'⟩)
