/- WALK of functions of the seat, or plain laws for it: each theorem f<k> says what function k returns, for every world and all arguments that stand for the values named. Conditions: none but those ahead of each theorem. -/
import Derived.Test.YtklhdnjhgbglhaaYH12
import Derived.Test.YtklhdnjhgbglhaaYH13
open Go Go.Vm Go.Proofs
set_option maxRecDepth 100000
set_option maxHeartbeats 16000000
set_option linter.unusedSimpArgs false
set_option linter.unusedVariables false
theorem map_froize_mA (ms : List Mv) : (ms.map mA).map froize = ms.map mA := by
  rw [List.map_map]
  exact List.map_congr_left fun m _ => rfl
theorem froize_xA (t : Tx) : froize (xA t) = xA t := rfl
theorem wk_hA (h : Hs) : wk (hA h) = hA h := by simp only [hA, wk, wkL, wkL_eq, map_wk_gA, wk_xAs]
theorem wkF (vs : List Ver) (ck : Int) (tx : List Tx) (X : List AV) (hX : (X.map froize).map wk = tx.map xA) : wk (.agg [.fro none false ((vs.map gA).map froize), .int .i64 ck, .fro none false (X.map froize)]) = hA ⟨vs, ck, tx⟩ := by
  simp only [wk, wkL, wkL_eq, map_froize_gA, map_wk_gA, hX, hA]
theorem setX {tx : List Tx} {i : Nat} {T : AV} {t : Tx} (hT : wk (froize T) = xA t) : ((((tx.map xA).set i T).map froize).map wk) = (tx.set i t).map xA := by
  simp only [List.map_set, map_froize_xA, wk_xAs, hT]
theorem allX (tx : List Tx) : (((tx.map xA).map froize).map wk) = tx.map xA := by rw [map_froize_xA, wk_xAs]
theorem takeX (tx : List Tx) (n : Nat) : ((((tx.map xA).take n).map froize).map wk) = (tx.take n).map xA := by rw [← List.map_take, map_froize_xA, wk_xAs]
theorem okH_set {h : Hs} (ho : okH h) {i : Nat} {t : Tx} (ht : okX t) (ck : Int) : okH ⟨h.vs, ck, h.tx.set i t⟩ :=
  ⟨ho.n, ho.row, ho.len, by simpa using ho.m, fun u hu => (List.mem_or_eq_of_mem_set hu).elim (ho.tx u) fun e => e ▸ ht⟩
theorem okH_take {h : Hs} (ho : okH h) (n : Nat) (ck : Int) : okH ⟨h.vs, ck, h.tx.take n⟩ :=
  ⟨ho.n, ho.row, ho.len, by have := ho.m; simp; omega, fun u hu => ho.tx u (List.mem_of_mem_take hu)⟩
theorem f19 (xs : List UInt8) (c : Bool) (p : Int) (hl : xs.length ≤ 2000) (h0 : 0 ≤ p) (h1 : p ≤ 1099511620000) : FxR 19 [rdP xs c p, .int .i64 9] fun r l => ∃ h : Hs, (∃ fs, r = .agg fs) ∧ wk (froize r) = hA h ∧ okH h ∧ ∃ q : Int, l = rdP xs c q := by
  refine fn_ofWX ⟨true, [50, 100035, 100045, 100018], [(8, [], [0, 1, 2, 4, 3, 5, 6, 7, 8, 9]), (10, [], [0, 1, 2, 4, 3, 5, 6, 7, 8]), (12, [], [1000])]⟩ (k := 0) Try.func19 (by kernel_rfl) rfl (by kernel_rfl) (by kernel_rfl) (Nat.le_of_ble_eq_true rfl) rfl ⟨_, _, .inr ⟨_, _, rfl⟩⟩ rfl fun Q hQ => ?_
  simp only [tr_seq, tr_block, tr_loop, tr_cond, tr_skip, tr_exit, tr_ret, tr_reg]
  rw [tr_any 8 [(0, [], 0), (0, [], 1), (0, [], 2), (0, [], 4), (1, [0, 1, 2, 4], 3), (1, [0, 1, 4], 5), (0, [], 6), (0, [], 7), (0, [], 8), (1, [0, 1, 6, 7, 8], 9), (2, [], 0)] (by kernel_rfl)]
  rw [tr_any 10 [(0, [], 0), (0, [], 1), (0, [], 2), (0, [], 4), (1, [0, 1, 2, 4], 3), (1, [0, 1, 4], 5), (0, [], 6), (0, [], 7), (1, [0, 1, 6, 7], 8), (2, [], 0)] (by kernel_rfl)]
  rw [tr_tree 12 [] (.both 0 (.both 1 (.both 2 (.both 3 (.both 4 (.both 5 (.both 6 .leaf .leaf) .leaf) .leaf) .leaf) .leaf) (.both 2 (.both 1 (.both 3 (.both 4 (.both 5 (.both 6 .leaf .leaf) .leaf) .leaf) .leaf) (.both 3 (.both 1 (.both 4 (.both 5 (.both 6 .leaf .leaf) .leaf) .leaf) .leaf) .leaf)) .leaf)) (.both 2 (.both 0 (.both 1 (.both 3 (.both 4 (.both 5 (.both 6 .leaf .leaf) .leaf) .leaf) .leaf) (.both 3 (.both 1 (.both 4 (.both 5 (.both 6 .leaf .leaf) .leaf) .leaf) .leaf) .leaf)) (.both 3 (.both 0 (.both 1 (.both 4 (.both 5 (.both 6 .leaf .leaf) .leaf) .leaf) .leaf) .leaf) .leaf)) .leaf)) (by kernel_rfl)]
  simp only [codeA_nil, codeA_look, codeA_hard, codeA_fin, ordC_leaf, ordC_one, ordC_both, pickL, List.getElem?_toArray, List.getElem?_cons_zero, List.getElem?_cons_succ]
  simp only [vmA, Nat.reduceEqDiff, reduceIte, Nat.reduceAdd, Nat.reduceBEq, reduceCtorEq, Nat.reduceLT, Int.reduceLE, Int.reduceLT, Int.reduceEq, Nat.reduceMul, Nat.reduceLeDiff, rdP, rdA]
  refine callR (f43F 0) ?_
  rintro _ _ ⟨rfl, rfl⟩
  simp only [vmA, Nat.reduceEqDiff, reduceIte, Nat.reduceAdd, Nat.reduceBEq, reduceCtorEq, Nat.reduceLT, Int.reduceLE, Int.reduceLT, Int.reduceEq, Nat.reduceMul, Nat.reduceLeDiff, rdP, rdA, hF, Option.bind_none]
  refine callR (f44 xs c p hl (by omega) (by omega)) ?_
  rintro _ _ ⟨ms, q, rfl, hml, hmm, hq, rfl⟩
  simp only [vmA, Nat.reduceEqDiff, reduceIte, Nat.reduceAdd, Nat.reduceBEq, reduceCtorEq, Nat.reduceLT, Int.reduceLE, Int.reduceLT, Int.reduceEq, Nat.reduceMul, Nat.reduceLeDiff, rdP, rdA, hF, Option.bind_none, List.length_map, map_froize_gA, map_froize_xA, map_froize_mA]
  refine callR (f42 newH newH_ok ms false (by omega) (fun m hm => ⟨(hmm m hm).1, by have := (hmm m hm).2; omega⟩)) ?_
  rintro _ _ ⟨h, rfl, hp, rfl⟩
  have ho := okH_P hp
  have htl := hp.2.2.2.1
  cases hb : hasFro (hF h)
  · simp only [behind_nf hb]
    simp only [vmA, Nat.reduceEqDiff, reduceIte, Nat.reduceAdd, Nat.reduceBEq, reduceCtorEq, Nat.reduceLT, Int.reduceLE, Int.reduceLT, Int.reduceEq, Nat.reduceMul, Nat.reduceLeDiff, rdP, rdA, hF, Option.bind_none, List.length_map]
    refine callR (f45 xs c q 9 hl (by omega) (by omega) (by omega)) ?_
    rintro _ _ ⟨b, rfl, rfl⟩
    cases b
    · simp only [vmA, Nat.reduceEqDiff, reduceIte, Nat.reduceAdd, Nat.reduceBEq, reduceCtorEq, Nat.reduceLT, Int.reduceLE, Int.reduceLT, Int.reduceEq, Nat.reduceMul, Nat.reduceLeDiff, rdP, rdA, hF, Option.bind_none, List.length_map]
      (refine hQ _ ?_; simp only [vmA, Nat.reduceEqDiff, reduceIte, Nat.reduceAdd, Nat.reduceBEq, reduceCtorEq, Nat.reduceLT, Int.reduceLE, Int.reduceLT, Int.reduceEq, Nat.reduceMul, Nat.reduceLeDiff, Try.f19, retG, resL, St.closeVs, St.closeV, leftV, ghostW, rdP, rdA, hF, Option.bind_none, List.length_map])
      exact ⟨⟨h.vs, h.ck, h.tx⟩, ⟨_, rfl⟩, wkF _ _ _ _ (allX _), ho, _, rfl⟩
    · simp only [vmA, Nat.reduceEqDiff, reduceIte, Nat.reduceAdd, Nat.reduceBEq, reduceCtorEq, Nat.reduceLT, Int.reduceLE, Int.reduceLT, Int.reduceEq, Nat.reduceMul, Nat.reduceLeDiff, rdP, rdA, hF, Option.bind_none, List.length_map]
      refine callR (f46 xs c _ 5 hl (by omega) (by omega)) ?_
      rintro _ _ ⟨k, rfl, hk0, hkn, rfl⟩
      simp only [vmA, Nat.reduceEqDiff, reduceIte, Nat.reduceAdd, Nat.reduceBEq, reduceCtorEq, Nat.reduceLT, Int.reduceLE, Int.reduceLT, Int.reduceEq, Nat.reduceMul, Nat.reduceLeDiff, rdP, rdA, hF, Option.bind_none, List.length_map]
      refine ⟨fun _ => callR (f46 xs c _ 50 hl (by omega) (by omega)) ?_, fun _ => ⟨fun _ => callR (f46 xs c _ 4 hl (by omega) (by omega)) ?_, fun _ => ⟨fun _ => callR (f46 xs c _ 4 hl (by omega) (by omega)) ?_, fun _ => ⟨fun _ => ?_, fun _ => ?_⟩⟩⟩⟩
      · rintro _ _ ⟨k2, rfl, hk20, hk2n, rfl⟩
        simp only [vmA, Nat.reduceEqDiff, reduceIte, Nat.reduceAdd, Nat.reduceBEq, reduceCtorEq, Nat.reduceLT, Int.reduceLE, Int.reduceLT, Int.reduceEq, Nat.reduceMul, Nat.reduceLeDiff, rdP, rdA, hF, Option.bind_none, List.length_map]
        (refine hQ _ ?_; simp only [vmA, Nat.reduceEqDiff, reduceIte, Nat.reduceAdd, Nat.reduceBEq, reduceCtorEq, Nat.reduceLT, Int.reduceLE, Int.reduceLT, Int.reduceEq, Nat.reduceMul, Nat.reduceLeDiff, Try.f19, retG, resL, St.closeVs, St.closeV, leftV, ghostW, rdP, rdA, hF, Option.bind_none, List.length_map])
        exact ⟨⟨h.vs, _, h.tx⟩, ⟨_, rfl⟩, wkF _ _ _ _ (allX _), ⟨ho.n, ho.row, ho.len, ho.m, ho.tx⟩, _, rfl⟩
      · rintro _ _ ⟨k2, rfl, hk20, hk2n, rfl⟩
        simp only [vmA, Nat.reduceEqDiff, reduceIte, Nat.reduceAdd, Nat.reduceBEq, reduceCtorEq, Nat.reduceLT, Int.reduceLE, Int.reduceLT, Int.reduceEq, Nat.reduceMul, Nat.reduceLeDiff, rdP, rdA, hF, Option.bind_none, List.length_map]
        refine callR (f46 xs c _ 6 hl (by omega) (by omega)) ?_
        rintro _ _ ⟨k3, rfl, hk30, hk3n, rfl⟩
        simp only [vmA, Nat.reduceEqDiff, reduceIte, Nat.reduceAdd, Nat.reduceBEq, reduceCtorEq, Nat.reduceLT, Int.reduceLE, Int.reduceLT, Int.reduceEq, Nat.reduceMul, Nat.reduceLeDiff, rdP, rdA, hF, Option.bind_none, List.length_map, xA, mod0, List.set_cons_zero, List.set_cons_succ, leaves]
        refine ⟨⟨by omega, by omega⟩, ⟨by omega, by omega⟩, by omega, ?_⟩
        (refine hQ _ ?_; simp only [vmA, Nat.reduceEqDiff, reduceIte, Nat.reduceAdd, Nat.reduceBEq, reduceCtorEq, Nat.reduceLT, Int.reduceLE, Int.reduceLT, Int.reduceEq, Nat.reduceMul, Nat.reduceLeDiff, Try.f19, retG, resL, St.closeVs, St.closeV, leftV, ghostW, rdP, rdA, hF, Option.bind_none, List.length_map])
        exact ⟨⟨h.vs, h.ck, h.tx.set k2.toNat { h.tx[k2.toNat]! with st := IntKind.i64.wrap (k3 - 1) }⟩, ⟨_, rfl⟩, wkF _ _ _ _ (setX (wk_xA { h.tx[k2.toNat]! with st := IntKind.i64.wrap (k3 - 1) })), okH_set ho (t := { h.tx[k2.toNat]! with st := IntKind.i64.wrap (k3 - 1) }) (ho.at (i := k2.toNat) (by omega)) _, _, rfl⟩
      · rintro _ _ ⟨k2, rfl, hk20, hk2n, rfl⟩
        simp only [vmA, Nat.reduceEqDiff, reduceIte, Nat.reduceAdd, Nat.reduceBEq, reduceCtorEq, Nat.reduceLT, Int.reduceLE, Int.reduceLT, Int.reduceEq, Nat.reduceMul, Nat.reduceLeDiff, rdP, rdA, hF, Option.bind_none, List.length_map]
        refine callR (f46 xs c _ 5 hl (by omega) (by omega)) ?_
        rintro _ _ ⟨k3, rfl, hk30, hk3n, rfl⟩
        simp only [vmA, Nat.reduceEqDiff, reduceIte, Nat.reduceAdd, Nat.reduceBEq, reduceCtorEq, Nat.reduceLT, Int.reduceLE, Int.reduceLT, Int.reduceEq, Nat.reduceMul, Nat.reduceLeDiff, rdP, rdA, hF, Option.bind_none, List.length_map, xA, mod0, List.set_cons_zero, List.set_cons_succ, leaves]
        refine ⟨⟨by omega, by omega⟩, ⟨by omega, by omega⟩, by omega, ?_⟩
        (refine hQ _ ?_; simp only [vmA, Nat.reduceEqDiff, reduceIte, Nat.reduceAdd, Nat.reduceBEq, reduceCtorEq, Nat.reduceLT, Int.reduceLE, Int.reduceLT, Int.reduceEq, Nat.reduceMul, Nat.reduceLeDiff, Try.f19, retG, resL, St.closeVs, St.closeV, leftV, ghostW, rdP, rdA, hF, Option.bind_none, List.length_map])
        exact ⟨⟨h.vs, h.ck, h.tx.set k2.toNat { h.tx[k2.toNat]! with fn := k3 }⟩, ⟨_, rfl⟩, wkF _ _ _ _ (setX (wk_xA { h.tx[k2.toNat]! with fn := k3 })), okH_set ho (t := { h.tx[k2.toNat]! with fn := k3 }) (ho.at (i := k2.toNat) (by omega)) _, _, rfl⟩
      · simp only [vmA, Nat.reduceEqDiff, reduceIte, Nat.reduceAdd, Nat.reduceBEq, reduceCtorEq, Nat.reduceLT, Int.reduceLE, Int.reduceLT, Int.reduceEq, Nat.reduceMul, Nat.reduceLeDiff, rdP, rdA, hF, Option.bind_none, List.length_map, WT_both]
        repeat' first
          | refine And.intro ?_ ?_
          | (refine callR (f46 xs c _ 4 hl (by omega) (by omega)) ?_
             rintro _ _ ⟨k2, rfl, hk20, hk2n, rfl⟩
             simp only [vmA, Nat.reduceEqDiff, reduceIte, Nat.reduceAdd, Nat.reduceBEq, reduceCtorEq, Nat.reduceLT, Int.reduceLE, Int.reduceLT, Int.reduceEq, Nat.reduceMul, Nat.reduceLeDiff, rdP, rdA, hF, Option.bind_none, List.length_map, WT_both])
        all_goals first
          | omega
          | ((refine hQ _ ?_; simp only [vmA, Nat.reduceEqDiff, reduceIte, Nat.reduceAdd, Nat.reduceBEq, reduceCtorEq, Nat.reduceLT, Int.reduceLE, Int.reduceLT, Int.reduceEq, Nat.reduceMul, Nat.reduceLeDiff, Try.f19, retG, resL, St.closeVs, St.closeV, leftV, ghostW, rdP, rdA, hF, Option.bind_none, List.length_map])
             exact ⟨⟨h.vs, h.ck, h.tx.take k2.toNat⟩, ⟨_, rfl⟩, wkF _ _ _ _ (takeX _ _), okH_take ho _ _, _, rfl⟩)
      · simp only [vmA, Nat.reduceEqDiff, reduceIte, Nat.reduceAdd, Nat.reduceBEq, reduceCtorEq, Nat.reduceLT, Int.reduceLE, Int.reduceLT, Int.reduceEq, Nat.reduceMul, Nat.reduceLeDiff, rdP, rdA, hF, Option.bind_none, List.length_map, xA, mod0, List.set_cons_zero, List.set_cons_succ, leaves]
        refine ⟨by omega, by omega, ?_⟩
        (refine hQ _ ?_; simp only [vmA, Nat.reduceEqDiff, reduceIte, Nat.reduceAdd, Nat.reduceBEq, reduceCtorEq, Nat.reduceLT, Int.reduceLE, Int.reduceLT, Int.reduceEq, Nat.reduceMul, Nat.reduceLeDiff, Try.f19, retG, resL, St.closeVs, St.closeV, leftV, ghostW, rdP, rdA, hF, Option.bind_none, List.length_map])
        exact ⟨⟨h.vs, h.ck, h.tx.set 0 { h.tx[0]! with rd := [2, 1] }⟩, ⟨_, rfl⟩, wkF _ _ _ _ (setX (wk_xA { h.tx[0]! with rd := [2, 1] })), okH_set ho (t := { h.tx[0]! with rd := [2, 1] }) ⟨by simp, (ho.at (i := 0) (by omega)).2.1, (ho.at (i := 0) (by omega)).2.2⟩ _, _, rfl⟩
  · simp only [behind_yes hb]
    simp only [vmA, Nat.reduceEqDiff, reduceIte, Nat.reduceAdd, Nat.reduceBEq, reduceCtorEq, Nat.reduceLT, Int.reduceLE, Int.reduceLT, Int.reduceEq, Nat.reduceMul, Nat.reduceLeDiff, rdP, rdA, hF, Option.bind_none, List.length_map, freezeL, lentOf]
    refine callR (f45 xs c q 9 hl (by omega) (by omega) (by omega)) ?_
    rintro _ _ ⟨b, rfl, rfl⟩
    cases b
    · simp only [vmA, Nat.reduceEqDiff, reduceIte, Nat.reduceAdd, Nat.reduceBEq, reduceCtorEq, Nat.reduceLT, Int.reduceLE, Int.reduceLT, Int.reduceEq, Nat.reduceMul, Nat.reduceLeDiff, rdP, rdA, hF, Option.bind_none, List.length_map]
      (refine hQ _ ?_; simp only [vmA, Nat.reduceEqDiff, reduceIte, Nat.reduceAdd, Nat.reduceBEq, reduceCtorEq, Nat.reduceLT, Int.reduceLE, Int.reduceLT, Int.reduceEq, Nat.reduceMul, Nat.reduceLeDiff, Try.f19, retG, resL, St.closeVs, St.closeV, leftV, ghostW, rdP, rdA, hF, Option.bind_none, List.length_map])
      exact ⟨⟨h.vs, h.ck, h.tx⟩, ⟨_, rfl⟩, wkF _ _ _ _ (allX _), ho, _, rfl⟩
    · simp only [vmA, Nat.reduceEqDiff, reduceIte, Nat.reduceAdd, Nat.reduceBEq, reduceCtorEq, Nat.reduceLT, Int.reduceLE, Int.reduceLT, Int.reduceEq, Nat.reduceMul, Nat.reduceLeDiff, rdP, rdA, hF, Option.bind_none, List.length_map]
      refine callR (f46 xs c _ 5 hl (by omega) (by omega)) ?_
      rintro _ _ ⟨k, rfl, hk0, hkn, rfl⟩
      simp only [vmA, Nat.reduceEqDiff, reduceIte, Nat.reduceAdd, Nat.reduceBEq, reduceCtorEq, Nat.reduceLT, Int.reduceLE, Int.reduceLT, Int.reduceEq, Nat.reduceMul, Nat.reduceLeDiff, rdP, rdA, hF, Option.bind_none, List.length_map]
      refine ⟨fun _ => callR (f46 xs c _ 50 hl (by omega) (by omega)) ?_, fun _ => ⟨fun _ => callR (f46 xs c _ 4 hl (by omega) (by omega)) ?_, fun _ => ⟨fun _ => callR (f46 xs c _ 4 hl (by omega) (by omega)) ?_, fun _ => ⟨fun _ => ?_, fun _ => ?_⟩⟩⟩⟩
      · rintro _ _ ⟨k2, rfl, hk20, hk2n, rfl⟩
        simp only [vmA, Nat.reduceEqDiff, reduceIte, Nat.reduceAdd, Nat.reduceBEq, reduceCtorEq, Nat.reduceLT, Int.reduceLE, Int.reduceLT, Int.reduceEq, Nat.reduceMul, Nat.reduceLeDiff, rdP, rdA, hF, Option.bind_none, List.length_map]
        (refine hQ _ ?_; simp only [vmA, Nat.reduceEqDiff, reduceIte, Nat.reduceAdd, Nat.reduceBEq, reduceCtorEq, Nat.reduceLT, Int.reduceLE, Int.reduceLT, Int.reduceEq, Nat.reduceMul, Nat.reduceLeDiff, Try.f19, retG, resL, St.closeVs, St.closeV, leftV, ghostW, rdP, rdA, hF, Option.bind_none, List.length_map])
        exact ⟨⟨h.vs, _, h.tx⟩, ⟨_, rfl⟩, wkF _ _ _ _ (allX _), ⟨ho.n, ho.row, ho.len, ho.m, ho.tx⟩, _, rfl⟩
      · rintro _ _ ⟨k2, rfl, hk20, hk2n, rfl⟩
        simp only [vmA, Nat.reduceEqDiff, reduceIte, Nat.reduceAdd, Nat.reduceBEq, reduceCtorEq, Nat.reduceLT, Int.reduceLE, Int.reduceLT, Int.reduceEq, Nat.reduceMul, Nat.reduceLeDiff, rdP, rdA, hF, Option.bind_none, List.length_map]
        refine callR (f46 xs c _ 6 hl (by omega) (by omega)) ?_
        rintro _ _ ⟨k3, rfl, hk30, hk3n, rfl⟩
        simp only [vmA, Nat.reduceEqDiff, reduceIte, Nat.reduceAdd, Nat.reduceBEq, reduceCtorEq, Nat.reduceLT, Int.reduceLE, Int.reduceLT, Int.reduceEq, Nat.reduceMul, Nat.reduceLeDiff, rdP, rdA, hF, Option.bind_none, List.length_map, xA, mod0, List.set_cons_zero, List.set_cons_succ, leaves]
        refine ⟨⟨by omega, by omega⟩, ⟨by omega, by omega⟩, by omega, ?_⟩
        (refine hQ _ ?_; simp only [vmA, Nat.reduceEqDiff, reduceIte, Nat.reduceAdd, Nat.reduceBEq, reduceCtorEq, Nat.reduceLT, Int.reduceLE, Int.reduceLT, Int.reduceEq, Nat.reduceMul, Nat.reduceLeDiff, Try.f19, retG, resL, St.closeVs, St.closeV, leftV, ghostW, rdP, rdA, hF, Option.bind_none, List.length_map])
        exact ⟨⟨h.vs, h.ck, h.tx.set k2.toNat { h.tx[k2.toNat]! with st := IntKind.i64.wrap (k3 - 1) }⟩, ⟨_, rfl⟩, wkF _ _ _ _ (setX (wk_xA { h.tx[k2.toNat]! with st := IntKind.i64.wrap (k3 - 1) })), okH_set ho (t := { h.tx[k2.toNat]! with st := IntKind.i64.wrap (k3 - 1) }) (ho.at (i := k2.toNat) (by omega)) _, _, rfl⟩
      · rintro _ _ ⟨k2, rfl, hk20, hk2n, rfl⟩
        simp only [vmA, Nat.reduceEqDiff, reduceIte, Nat.reduceAdd, Nat.reduceBEq, reduceCtorEq, Nat.reduceLT, Int.reduceLE, Int.reduceLT, Int.reduceEq, Nat.reduceMul, Nat.reduceLeDiff, rdP, rdA, hF, Option.bind_none, List.length_map]
        refine callR (f46 xs c _ 5 hl (by omega) (by omega)) ?_
        rintro _ _ ⟨k3, rfl, hk30, hk3n, rfl⟩
        simp only [vmA, Nat.reduceEqDiff, reduceIte, Nat.reduceAdd, Nat.reduceBEq, reduceCtorEq, Nat.reduceLT, Int.reduceLE, Int.reduceLT, Int.reduceEq, Nat.reduceMul, Nat.reduceLeDiff, rdP, rdA, hF, Option.bind_none, List.length_map, xA, mod0, List.set_cons_zero, List.set_cons_succ, leaves]
        refine ⟨⟨by omega, by omega⟩, ⟨by omega, by omega⟩, by omega, ?_⟩
        (refine hQ _ ?_; simp only [vmA, Nat.reduceEqDiff, reduceIte, Nat.reduceAdd, Nat.reduceBEq, reduceCtorEq, Nat.reduceLT, Int.reduceLE, Int.reduceLT, Int.reduceEq, Nat.reduceMul, Nat.reduceLeDiff, Try.f19, retG, resL, St.closeVs, St.closeV, leftV, ghostW, rdP, rdA, hF, Option.bind_none, List.length_map])
        exact ⟨⟨h.vs, h.ck, h.tx.set k2.toNat { h.tx[k2.toNat]! with fn := k3 }⟩, ⟨_, rfl⟩, wkF _ _ _ _ (setX (wk_xA { h.tx[k2.toNat]! with fn := k3 })), okH_set ho (t := { h.tx[k2.toNat]! with fn := k3 }) (ho.at (i := k2.toNat) (by omega)) _, _, rfl⟩
      · simp only [vmA, Nat.reduceEqDiff, reduceIte, Nat.reduceAdd, Nat.reduceBEq, reduceCtorEq, Nat.reduceLT, Int.reduceLE, Int.reduceLT, Int.reduceEq, Nat.reduceMul, Nat.reduceLeDiff, rdP, rdA, hF, Option.bind_none, List.length_map, WT_both]
        repeat' first
          | refine And.intro ?_ ?_
          | (refine callR (f46 xs c _ 4 hl (by omega) (by omega)) ?_
             rintro _ _ ⟨k2, rfl, hk20, hk2n, rfl⟩
             simp only [vmA, Nat.reduceEqDiff, reduceIte, Nat.reduceAdd, Nat.reduceBEq, reduceCtorEq, Nat.reduceLT, Int.reduceLE, Int.reduceLT, Int.reduceEq, Nat.reduceMul, Nat.reduceLeDiff, rdP, rdA, hF, Option.bind_none, List.length_map, WT_both])
        all_goals first
          | omega
          | ((refine hQ _ ?_; simp only [vmA, Nat.reduceEqDiff, reduceIte, Nat.reduceAdd, Nat.reduceBEq, reduceCtorEq, Nat.reduceLT, Int.reduceLE, Int.reduceLT, Int.reduceEq, Nat.reduceMul, Nat.reduceLeDiff, Try.f19, retG, resL, St.closeVs, St.closeV, leftV, ghostW, rdP, rdA, hF, Option.bind_none, List.length_map])
             exact ⟨⟨h.vs, h.ck, h.tx.take k2.toNat⟩, ⟨_, rfl⟩, wkF _ _ _ _ (takeX _ _), okH_take ho _ _, _, rfl⟩)
      · simp only [vmA, Nat.reduceEqDiff, reduceIte, Nat.reduceAdd, Nat.reduceBEq, reduceCtorEq, Nat.reduceLT, Int.reduceLE, Int.reduceLT, Int.reduceEq, Nat.reduceMul, Nat.reduceLeDiff, rdP, rdA, hF, Option.bind_none, List.length_map, xA, mod0, List.set_cons_zero, List.set_cons_succ, leaves]
        refine ⟨by omega, by omega, ?_⟩
        (refine hQ _ ?_; simp only [vmA, Nat.reduceEqDiff, reduceIte, Nat.reduceAdd, Nat.reduceBEq, reduceCtorEq, Nat.reduceLT, Int.reduceLE, Int.reduceLT, Int.reduceEq, Nat.reduceMul, Nat.reduceLeDiff, Try.f19, retG, resL, St.closeVs, St.closeV, leftV, ghostW, rdP, rdA, hF, Option.bind_none, List.length_map])
        exact ⟨⟨h.vs, h.ck, h.tx.set 0 { h.tx[0]! with rd := [2, 1] }⟩, ⟨_, rfl⟩, wkF _ _ _ _ (setX (wk_xA { h.tx[0]! with rd := [2, 1] })), okH_set ho (t := { h.tx[0]! with rd := [2, 1] }) ⟨by simp, (ho.at (i := 0) (by omega)).2.1, (ho.at (i := 0) (by omega)).2.2⟩ _, _, rfl⟩
