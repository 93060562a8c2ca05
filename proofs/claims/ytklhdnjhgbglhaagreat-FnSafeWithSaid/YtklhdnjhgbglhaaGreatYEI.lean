/- WALK, or plain laws for it: theorem f<k> says what function k returns. Conditions: none but those ahead of each theorem. -/
import Derived.Test.YtklhdnjhgbglhaaGreatYP8
import Derived.Test.YtklhdnjhgbglhaaGreatYN10
import Derived.Test.YtklhdnjhgbglhaaGreatYEB
import Derived.Test.YtklhdnjhgbglhaaGreatYEH
import Derived.Test.YtklhdnjhgbglhaaGreatYH11
import Derived.Test.YtklhdnjhgbglhaaGreatYQS
set_option linter.unusedVariables false
set_option linter.unusedSimpArgs false
open Nat renaming reduceEqDiff → sN1, reduceAdd → sN2, reduceBEq → sN3, reduceLT → sN4, reduceMul → sN5, reduceLeDiff → sN6, reduceSub → sN7
open Int renaming reduceLE → sI1, reduceLT → sI2, reduceEq → sI3
open Go Go.Vm Go.Proofs
set_option maxRecDepth 100000
set_option maxHeartbeats 16000000
theorem f178 (vs : List Ver) (ws : List Wr) (c c2 : Bool) (t : Int) (hv : verP vs) (hw : wrsP ws) (hok : ∀ w ∈ ws, okW w) (ht : turnV vs 5 < t) (h1 : 1 ≤ t) (h41 : t ≤ 41) : FxR 178 [.fro none c (vs.map gA), .fro none c2 (ws.map wA), .int .i64 t] fun r l =>
    (((t ≤ 40 ∧ (wrV vs ws t).length ≤ 60) ∧ r = .tup [.own 4 ((wrV vs ws t).map gO), .bool true]) ∨ (¬ (t ≤ 40 ∧ (wrV vs ws t).length ≤ 60) ∧ r = .tup [.fro none true [], .bool false])) ∧ l = .und := by
  have hvl := hv.1
  have hr : ∀ v ∈ vs, okR v.row := fun v hm => okR_P ((verP_iff.1 hv).2.1 v hm).2.2.2
  have hwl := wrsP_len hw
  have hgw := wrsP_good hw hok
  refine fn_ofR ⟨false, [], []⟩ Tryz.func178 (by kernel_rfl) rfl (by kernel_rfl) (by kernel_rfl) (Nat.le_of_ble_eq_true rfl) rfl fun Q hQ => ?_
  simp only [vmA, sN1, reduceIte, sN2, sN3, reduceCtorEq, sN4, sI1, sI2, sI3, sN5, sN6, List.length_map]
  refine callD (f55 vs c (by omega) hr) ?_
  simp only [vmA, sN1, reduceIte, sN2, sN3, reduceCtorEq, sN4, sI1, sI2, sI3, sN5, sN6, List.length_map, decide_eq_true hv]
  refine callD (f63 ws c2 (by omega) hok) ?_
  simp only [vmA, sN1, reduceIte, sN2, sN3, reduceCtorEq, sN4, sI1, sI2, sI3, sN5, sN6, List.length_map, decide_eq_true hw]
  refine ⟨fun g1 => ?_, fun g1 => callD (f57 vs c (by omega)) ?_⟩
  · (refine hQ _ ?_; simp only [vmA, sN1, reduceIte, sN2, sN3, reduceCtorEq, sN4, sI1, sI2, sI3, sN5, sN6, Tryz.f178, retG, resL, St.closeVs, St.closeV])
    exact .inr fun z => by omega
  simp only [vmA, sN1, reduceIte, sN2, sN3, reduceCtorEq, sN4, sI1, sI2, sI3, sN5, sN6, List.length_map]
  refine ⟨fun g2 => absurd g2 (by omega), fun g2 => ?_⟩
  have g := verP_good (T := turnV vs 5) hv (Int.le_refl _) (by omega)
  refine callD (f121 (turnV vs 5) vs ws t c c2 g hgw ht h1 (by omega) hwl (by omega)) ?_
  simp only [vmA, sN1, reduceIte, sN2, sN3, reduceCtorEq, sN4, sI1, sI2, sI3, sN5, sN6, List.length_map]
  refine ⟨fun g3 => ?_, fun g3 => ?_⟩
  · (refine hQ _ ?_; simp only [vmA, sN1, reduceIte, sN2, sN3, reduceCtorEq, sN4, sI1, sI2, sI3, sN5, sN6, Tryz.f178, retG, resL, St.closeVs, St.closeV])
    exact .inr fun z => by omega
  · (refine hQ _ ?_; simp only [vmA, sN1, reduceIte, sN2, sN3, reduceCtorEq, sN4, sI1, sI2, sI3, sN5, sN6, Tryz.f178, retG, resL, St.closeVs, St.closeV, List.length_map, take_map_len])
    exact .inl ⟨by omega, by omega⟩
def endI (h : Hs) (who : Int) : Prop := ¬ lateP h h.tx[who.toNat]! ∧ h.ck + 1 ≤ 40 ∧ (wrV h.vs h.tx[who.toNat]!.ws (h.ck + 1)).length ≤ 60
def endW (h : Hs) (who : Int) : List Tx := h.tx.set who.toNat { h.tx[who.toNat]! with st := 2, fn := h.ck + 1 }
def endL (h : Hs) (who n : Int) (l : AV) : Prop := ∃ (Z T : List AV) (ck : Int), l = .pt 3 [.agg [.own 4 Z, .int .i64 ck, .own 5 T]] 0 0 ∧
  ((endI h who ∧ n = 1 ∧ Z = (wrV h.vs h.tx[who.toNat]!.ws (h.ck + 1)).map gO ∧ ck = h.ck + 1 ∧ T = (endW h who).map xA) ∨ (¬ endI h who ∧ n ≠ 1))
theorem f118 (h : Hs) (who : Int) (hp : houseP h) (hw : 0 ≤ who ∧ who ≤ 3) (hs : h.tx[who.toNat]!.st = 1) : FxR 118 [.pt 3 [hF h] 0 0, .int .i64 who] fun r l => ∃ n : Int, r = .int .i64 n ∧ endL h who n l := by
  have ho := okH_P hp
  have hsm := okH_smX hp
  have hl := hp.2.2.2.1
  have hi : who.toNat < 4 := by omega
  have hx : txP h.tx[who.toNat]! h.ck := hp.2.2.2.2.1 _ hi
  have hmem : h.tx[who.toNat]! ∈ h.tx := by rw [getElem!_pos h.tx _ (by omega)]; exact List.getElem_mem _
  have hok := okX_P hx (hsm _ hmem)
  have hck := hp.2.1
  have hb : txB h.tx[who.toNat]! h.ck := by
    rcases hx with ⟨a, _⟩ | ⟨a, _⟩ | ⟨_, _, a⟩
    · omega
    · omega
    · exact a
  refine fn_ofWX ⟨true, [100013, 300000, 300005, 300055], [(5, [], [0, 1, 2, 3, 4, 5, 6, 7, 8, 9, 10, 11, 12, 13, 14, 15, 16, 17, 18])]⟩ (k := 0) Tryz.func118 (by kernel_rfl) rfl (by kernel_rfl) (by kernel_rfl) (Nat.le_of_ble_eq_true rfl) rfl ⟨_, _, .inr ⟨_, _, rfl⟩⟩ rfl fun Q hQ => ?_
  simp only [tr_seq, tr_block, tr_loop, tr_cond, tr_skip, tr_exit, tr_ret, tr_reg]
  rw [tr_calm (i := 2) (by kernel_rfl)]
  rw [tr_any 5 [(0, [], 0), (0, [], 1), (0, [], 2), (0, [], 3), (0, [], 4), (0, [], 5), (0, [], 6), (0, [], 7), (0, [], 8), (0, [], 9), (0, [], 10), (0, [], 11), (0, [], 12), (1, [0, 1, 2, 3, 4, 5, 6, 7, 8, 9, 10, 11, 12], 13), (0, [], 14), (0, [], 15), (0, [], 16), (0, [], 17), (0, [], 18), (2, [14, 15, 16, 17, 18], 0)] (by kernel_rfl)]
  simp only [codeA_nil, codeA_look, codeA_hard, codeA_fin, ordC_leaf, ordC_one, ordC_both, pickL, List.getElem?_toArray, List.getElem?_cons_zero, List.getElem?_cons_succ]
  simp only [vmA, sN1, reduceIte, sN2, sN3, reduceCtorEq, sN4, sI1, sI2, sI3, sN5, sN6, hF, xA, List.length_map, t_storeR, rnI, renewL, renewV, renewC, sN7, mod0, List.set_cons_zero, List.set_cons_succ, leaves, reEl, map_froize_gA, map_froize_xA]
  refine ⟨⟨by omega, by omega⟩, by omega, callD (f177 h h.tx[who.toNat]! ho hok) ?_⟩
  simp only [vmA, sN1, reduceIte, sN2, sN3, reduceCtorEq, sN4, sI1, sI2, sI3, sN5, sN6, hF, xA, List.length_map, t_storeR, rnI, renewL, renewV, renewC, sN7, mod0, List.set_cons_zero, List.set_cons_succ, leaves, reEl, map_froize_gA, map_froize_xA]
  refine ⟨fun g1 => ⟨by omega, ?_⟩, fun g1 => ⟨by omega, by omega, ?_⟩⟩
  · (refine hQ _ ?_; simp only [vmA, sN1, reduceIte, sN2, sN3, reduceCtorEq, sN4, sI1, sI2, sI3, sN5, sN6, Tryz.f118, retG, resL, St.closeVs, St.closeV, leftV, ghostW, hF, xA, List.length_map, t_storeR, rnI, renewL, renewV, renewC, sN7, mod0, List.set_cons_zero, List.set_cons_succ, leaves, reEl, map_froize_gA, map_froize_xA])
    exact ⟨2, rfl, _, _, _, rfl, .inr ⟨fun z => z.1 g1, by decide⟩⟩
  · have hw1 : IntKind.i64.wrap (h.ck + 1) = h.ck + 1 := wr (by omega)
    refine callR (f178 h.vs h.tx[who.toNat]!.ws false false (IntKind.i64.wrap (h.ck + 1)) hp.1 hb.2.2 hok.2.2 (by rw [hw1]; have := hp.2.2.1; omega) (by rw [hw1]; omega) (by rw [hw1]; omega)) ?_
    rw [hw1]
    rintro _ _ ⟨⟨g2, rfl⟩ | ⟨g2, rfl⟩, rfl⟩
    · simp only [vmA, sN1, reduceIte, sN2, sN3, reduceCtorEq, sN4, sI1, sI2, sI3, sN5, sN6, hF, xA, List.length_map, t_storeR, rnI, renewL, renewV, renewC, sN7, mod0, List.set_cons_zero, List.set_cons_succ, leaves, reEl, map_froize_gA, map_froize_xA, WT_both, hw1, behind_nf, hasFro, hasFro.hasFroL, hasFroL_gO, Bool.or_false, Bool.false_or, Option.bind_none, take_map_len]
      have hs1 : ∀ v, ((List.map (fun t => AV.agg [.int .i64 t.st, .int .i64 t.bg, .int .i64 t.fn, .fro none false (t.rd.map iA), .fro none false (t.ws.map wA)]) h.tx).set who.toNat v)[who.toNat]? = some v := fun v => List.getElem?_set_self (by rw [List.length_map]; omega)
      have hs2 : ∀ v, ((List.map xA h.tx).set who.toNat v)[who.toNat]? = some v := fun v => List.getElem?_set_self (by rw [List.length_map]; omega)
      simp only [hs2]
      simp only [vmA, sN1, reduceIte, sN2, sN3, reduceCtorEq, sN4, sI1, sI2, sI3, sN5, sN6, hF, xA, List.length_map, t_storeR, rnI, renewL, renewV, renewC, sN7, mod0, List.set_cons_zero, List.set_cons_succ, leaves, reEl, map_froize_gA, map_froize_xA, hw1, hs1, hs2, List.set_set]
      refine ⟨by omega, ?_⟩
      (refine hQ _ ?_; simp only [vmA, sN1, reduceIte, sN2, sN3, reduceCtorEq, sN4, sI1, sI2, sI3, sN5, sN6, Tryz.f118, retG, resL, St.closeVs, St.closeV, leftV, ghostW, hF, xA, List.length_map, t_storeR, rnI, renewL, renewV, renewC, sN7, mod0, List.set_cons_zero, List.set_cons_succ, leaves, reEl, map_froize_gA, map_froize_xA])
      exact ⟨1, rfl, _, _, _, rfl, .inl ⟨⟨g1, g2⟩, rfl, rfl, rfl, by unfold endW; rw [List.map_set]; rfl⟩⟩
    · simp only [vmA, sN1, reduceIte, sN2, sN3, reduceCtorEq, sN4, sI1, sI2, sI3, sN5, sN6, hF, xA, List.length_map, t_storeR, rnI, renewL, renewV, renewC, sN7, mod0, List.set_cons_zero, List.set_cons_succ, leaves, reEl, map_froize_gA, map_froize_xA, WT_both, hw1]
      (refine hQ _ ?_; simp only [vmA, sN1, reduceIte, sN2, sN3, reduceCtorEq, sN4, sI1, sI2, sI3, sN5, sN6, Tryz.f118, retG, resL, St.closeVs, St.closeV, leftV, ghostW, hF, xA, List.length_map, t_storeR, rnI, renewL, renewV, renewC, sN7, mod0, List.set_cons_zero, List.set_cons_succ, leaves, reEl, map_froize_gA, map_froize_xA])
      exact ⟨0, rfl, _, _, _, rfl, .inr ⟨fun z => g2 z.2, by decide⟩⟩
theorem f60 (h : Hs) (who : Int) (hp : houseP h) (hw : 0 ≤ who ∧ who ≤ 3) (hs : h.tx[who.toNat]!.st = 1) : FxR 60 [.pt 3 [hF h] 0 0, .agg [.int .i64 5, .int .i64 who, .int .i64 0, .fro none true []]] fun r l => ∃ n : Int, r = .int .i64 n ∧ endL h who n l := by
  have hl := hp.2.2.2.1
  have rowP0 : rowP [] := ⟨by simp, by simp⟩
  refine fn_ofWX ⟨true, [100064], [(13, [], [0, 1, 2, 3, 4, 5, 6, 7, 8, 9, 10, 11]), (15, [], [0, 1, 2, 3, 4, 5, 6, 7, 8, 9, 10, 11, 12, 13]), (18, [], [0, 1, 2, 3, 4, 6, 7, 8, 5, 9, 10])]⟩ (k := 0) Tryz.func60 (by kernel_rfl) rfl (by kernel_rfl) (by kernel_rfl) (Nat.le_of_ble_eq_true rfl) rfl ⟨_, _, .inr ⟨_, _, rfl⟩⟩ rfl fun Q hQ => ?_
  simp only [tr_seq, tr_block, tr_loop, tr_cond, tr_skip, tr_exit, tr_ret, tr_reg]
  rw [tr_calm (i := 4) (by kernel_rfl)]
  rw [tr_any 13 [(0, [], 0), (0, [], 1), (0, [], 2), (0, [], 3), (0, [], 4), (0, [], 5), (1, [0, 1, 2, 3, 4, 5], 6), (0, [], 7), (0, [], 8), (0, [], 9), (0, [], 10), (0, [], 11), (2, [7, 8, 9, 10, 11], 0)] (by kernel_rfl)]
  rw [tr_calm (i := 14) (by kernel_rfl)]
  rw [tr_any 15 [(0, [], 0), (0, [], 1), (0, [], 2), (0, [], 3), (0, [], 4), (0, [], 5), (0, [], 6), (0, [], 7), (1, [0, 1, 2, 3, 4, 5, 6, 7], 8), (1, [0, 1, 2, 3, 4, 5], 9), (1, [0], 10), (0, [], 11), (0, [], 12), (1, [0, 11, 12], 13), (2, [], 0)] (by kernel_rfl)]
  rw [tr_any 18 [(0, [], 0), (0, [], 1), (0, [], 2), (0, [], 3), (0, [], 4), (0, [], 6), (0, [], 7), (0, [], 8), (1, [0, 1, 2, 3, 4, 6, 7, 8], 5), (0, [], 9), (1, [0, 1, 2, 6, 7, 8, 9], 10), (2, [], 0)] (by kernel_rfl)]
  simp only [codeA_nil, codeA_look, codeA_hard, codeA_fin, ordC_leaf, ordC_one, ordC_both, pickL, List.getElem?_toArray, List.getElem?_cons_zero, List.getElem?_cons_succ]
  simp only [vmA, sN1, reduceIte, sN2, sN3, reduceCtorEq, sN4, sI1, sI2, sI3, sN5, sN6, hF, List.length_map]
  refine callD (f56 _ _ _) ?_
  simp only [vmA, sN1, reduceIte, sN2, sN3, reduceCtorEq, sN4, sI1, sI2, sI3, sN5, sN6, hF, List.length_map, decide_eq_true hw]
  refine callD (f106 0) ?_
  simp only [vmA, sN1, reduceIte, sN2, sN3, reduceCtorEq, sN4, sI1, sI2, sI3, sN5, sN6, hF, List.length_map, decide_eq_true (show (0 : Int) ≤ 0 ∧ (0 : Int) ≤ 4 by omega)]
  refine callD (f107 [] true (by simp) (by simp)) ?_
  simp only [vmA, sN1, reduceIte, sN2, sN3, reduceCtorEq, sN4, sI1, sI2, sI3, sN5, sN6, hF, xA, List.length_map, decide_eq_true rowP0, List.length_nil, hs]
  refine ⟨fun z => absurd z (by omega), fun _ => ⟨⟨by omega, by omega⟩, by omega, callR (f118 h who hp hw hs) ?_⟩⟩
  rintro _ _ ⟨n, rfl, Z, T, ck, rfl, hz⟩
  simp only [vmA, sN1, reduceIte, sN2, sN3, reduceCtorEq, sN4, sI1, sI2, sI3, sN5, sN6, hF, xA, List.length_map]
  (refine hQ _ ?_; simp only [vmA, sN1, reduceIte, sN2, sN3, reduceCtorEq, sN4, sI1, sI2, sI3, sN5, sN6, Tryz.f60, retG, resL, St.closeVs, St.closeV, leftV, ghostW, hF, xA, List.length_map])
  exact ⟨n, rfl, Z, T, ck, rfl, hz⟩
