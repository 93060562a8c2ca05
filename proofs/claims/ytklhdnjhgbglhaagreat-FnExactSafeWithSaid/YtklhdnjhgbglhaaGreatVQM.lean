/- WALK of functions of the seat, or plain laws for it: each theorem f<k> says what function k returns, for every world and all arguments that stand for the values named. Conditions: none but those ahead of each theorem. -/
import Derived.Test.YtklhdnjhgbglhaaGreatVQL
open Go Go.Vm Go.Proofs
set_option maxRecDepth 100000
set_option maxHeartbeats 16000000
set_option linter.unusedSimpArgs false
set_option linter.unusedVariables false
/-- A transaction can end. -/
def endP (h : Hs) (who : Int) : Prop := (0 ≤ who ∧ who ≤ 3) ∧ h.tx[who.toNat]!.st = 1 ∧ ¬ lateP h h.tx[who.toNat]! ∧ fitP h.vs h.tx[who.toNat]!.ws (h.ck + 1)
def endT (h : Hs) (who : Int) : List Tx := h.tx.set who.toNat { h.tx[who.toNat]! with st := 2, fn := h.ck + 1 }
def endR (h : Hs) (who : Int) (tx : List Tx) (n : Int) : Prop := (endP h who ∧ n = 1 ∧ tx = endT h who) ∨ (¬ endP h who ∧ n ≠ 1)
theorem rowP_nil : rowP [] := ⟨by simp, by simp⟩
theorem f70E (h : Hs) (who : Int) (hp : houseP h) : FxR 70 [hA h, mA ⟨5, who, 0, []⟩] fun r l => ∃ (h' : Hs) (n : Int) (r0 : AV), r = .tup [r0, .int .i64 n] ∧ wk (froV r0) = hF h' ∧ houseP h' ∧ endR h who h'.tx n ∧ l = .und := by
  have ho := okH_P hp
  have hs := okH_smX hp
  have hl := hp.2.2.2.1
  refine fn_ofXM ⟨true, [100068, 100149, 100184], [(16, [], [0, 1, 2, 3, 4, 5, 6, 7, 8, 9, 10])]⟩ Tryz.func70 (by kernel_rfl) rfl (by kernel_rfl) (by kernel_rfl) (Nat.le_of_ble_eq_true rfl) rfl fun Q hQ => ?_
  simp only [tr_seq, tr_block, tr_loop, tr_cond, tr_skip, tr_exit, tr_ret, tr_reg]
  rw [tr_any 16 [(0, [], 0), (0, [], 1), (0, [], 2), (0, [], 3), (0, [], 4), (0, [], 5), (1, [0, 1, 2, 3, 4, 5], 6), (0, [], 7), (1, [0, 1, 2, 3, 7], 8), (0, [], 9), (1, [9], 10), (2, [], 0)] (by kernel_rfl)]
  simp only [codeA_nil, codeA_look, codeA_hard, codeA_fin, ordC_leaf, ordC_one, ordC_both, pickL, List.getElem?_toArray, List.getElem?_cons_zero, List.getElem?_cons_succ]
  simp only [vmA, Nat.reduceEqDiff, reduceIte, Nat.reduceAdd, Nat.reduceBEq, reduceCtorEq, Nat.reduceLT, Int.reduceLE, Int.reduceLT, Int.reduceEq, Nat.reduceMul, Nat.reduceLeDiff, hA, mA]
  refine callD (f53 h ho) ?_
  simp only [vmA, Nat.reduceEqDiff, reduceIte, Nat.reduceAdd, Nat.reduceBEq, reduceCtorEq, Nat.reduceLT, Int.reduceLE, Int.reduceLT, Int.reduceEq, Nat.reduceMul, Nat.reduceLeDiff, hA, mA, decide_eq_true hp]
  refine callR (f70F h ho.n ho.len (by omega) hs (by omega)) ?_
  rintro _ _ ⟨rfl, rfl⟩
  simp only [vmA, Nat.reduceEqDiff, reduceIte, Nat.reduceAdd, Nat.reduceBEq, reduceCtorEq, Nat.reduceLT, Int.reduceLE, Int.reduceLT, Int.reduceEq, Nat.reduceMul, Nat.reduceLeDiff, hA, mA, hF, xA, Option.bind_none, List.length_map, List.map_nil]
  refine callD (f102 _ _ _) ?_
  simp only [vmA, Nat.reduceEqDiff, reduceIte, Nat.reduceAdd, Nat.reduceBEq, reduceCtorEq, Nat.reduceLT, Int.reduceLE, Int.reduceLT, Int.reduceEq, Nat.reduceMul, Nat.reduceLeDiff, hA, mA, hF, xA, Option.bind_none, List.length_map, List.map_nil]
  refine ⟨fun g1 => ?_, fun g1 => callD (f102 0 0 4) ?_⟩
  · (refine hQ _ ?_; simp only [vmA, Nat.reduceEqDiff, reduceIte, Nat.reduceAdd, Nat.reduceBEq, reduceCtorEq, Nat.reduceLT, Int.reduceLE, Int.reduceLT, Int.reduceEq, Nat.reduceMul, Nat.reduceLeDiff, Tryz.f70, retGM, resL, closeVsM, closeVM, St.closeV, hA, mA, hF, Option.bind_none])
    exact ⟨h, 0, hF h, rfl, wkV_hF h, hp, .inr ⟨fun z => g1 z.1, by decide⟩⟩
  simp only [vmA, Nat.reduceEqDiff, reduceIte, Nat.reduceAdd, Nat.reduceBEq, reduceCtorEq, Nat.reduceLT, Int.reduceLE, Int.reduceLT, Int.reduceEq, Nat.reduceMul, Nat.reduceLeDiff, hA, mA, hF, xA, Option.bind_none, List.length_map, List.map_nil, decide_eq_true (show (0 : Int) ≤ 0 ∧ (0 : Int) ≤ 4 by omega)]
  refine callD (f126 [] false (by simp) (by simp)) ?_
  simp only [vmA, Nat.reduceEqDiff, reduceIte, Nat.reduceAdd, Nat.reduceBEq, reduceCtorEq, Nat.reduceLT, Int.reduceLE, Int.reduceLT, Int.reduceEq, Nat.reduceMul, Nat.reduceLeDiff, hA, mA, hF, xA, Option.bind_none, List.length_map, List.map_nil, decide_eq_true rowP_nil, List.length_nil]
  have hx : (0 ≤ who ∧ who ≤ 3) → who.toNat < 4 := fun h => by omega
  have hi : who.toNat < 4 := by omega
  have hx : txP h.tx[who.toNat]! h.ck := hp.2.2.2.2.1 _ hi
  have hmem : h.tx[who.toNat]! ∈ h.tx := by rw [getElem!_pos h.tx _ (by omega)]; exact List.getElem_mem _
  have hsm := hs _ hmem
  have hok := okX_P hx hsm
  have hck := hp.2.1
  have hopen : h.tx[who.toNat]!.st = 1 → h.tx[who.toNat]!.fn = 0 ∧ txB h.tx[who.toNat]! h.ck := fun h1 => by
    rcases hx with ⟨a, _⟩ | ⟨a, _⟩ | ⟨_, a⟩
    · omega
    · omega
    · exact a
  refine ⟨fun z0 => absurd z0 (by omega), fun _ => ⟨⟨by omega, by omega⟩, by omega, fun h1 => ?_, fun h1 => callD (f130x h h.tx[who.toNat]! hp ho hok) ?_⟩⟩
  · (refine hQ _ ?_; simp only [vmA, Nat.reduceEqDiff, reduceIte, Nat.reduceAdd, Nat.reduceBEq, reduceCtorEq, Nat.reduceLT, Int.reduceLE, Int.reduceLT, Int.reduceEq, Nat.reduceMul, Nat.reduceLeDiff, Tryz.f70, retGM, resL, closeVsM, closeVM, St.closeV, hA, mA, hF, Option.bind_none])
    exact ⟨h, 0, hF h, rfl, wkV_hF h, hp, .inr ⟨fun z => h1 z.2.1, by decide⟩⟩
  obtain ⟨hfn, hb⟩ := hopen h1
  simp only [vmA, Nat.reduceEqDiff, reduceIte, Nat.reduceAdd, Nat.reduceBEq, reduceCtorEq, Nat.reduceLT, Int.reduceLE, Int.reduceLT, Int.reduceEq, Nat.reduceMul, Nat.reduceLeDiff, hA, mA, hF, xA, Option.bind_none, List.length_map, mod0, List.set_cons_zero, List.set_cons_succ, leaves, map_froize_iA, map_froize_wA]
  refine ⟨fun hlate => ⟨⟨by omega, by omega⟩, by omega, ?_⟩, fun hlate => ?_⟩
  · (refine hQ _ ?_; simp only [vmA, Nat.reduceEqDiff, reduceIte, Nat.reduceAdd, Nat.reduceBEq, reduceCtorEq, Nat.reduceLT, Int.reduceLE, Int.reduceLT, Int.reduceEq, Nat.reduceMul, Nat.reduceLeDiff, Tryz.f70, retGM, resL, closeVsM, closeVM, St.closeV, hA, mA, hF, Option.bind_none])
    exact ⟨⟨h.vs, h.ck, h.tx.set who.toNat { h.tx[who.toNat]! with st := 3 }⟩, _, _, rfl, wkV_set (map_froize_gA _) (wk_xA { h.tx[who.toNat]! with st := 3 }), house_set hp hi (.inr (.inr ⟨.inr rfl, hfn, hb⟩)) (by show (3 : Int) ≠ 2; decide), .inr ⟨fun z => z.2.2.1 hlate, by decide⟩⟩
  · rw [wr (by omega)]
    have hv := (verP_iff.1 hp.1)
    have hwl : h.tx[who.toNat]!.ws.length ≤ 1000 := by have := wrsP_len hb.2.2; omega
    refine callR (f131x h.vs h.tx[who.toNat]!.ws false false (h.ck + 1) (by omega) ho.row ho.len hwl hok.2.2 hsm.2.2) ?_
    rintro _ _ ⟨⟨Z, b, rfl, hZb⟩, rfl⟩
    cases b
    · rcases hZb with ⟨_, rfl, hnf⟩ | ⟨e, _⟩
      rotate_left
      · cases e
      simp only [vmA, Nat.reduceEqDiff, reduceIte, Nat.reduceAdd, Nat.reduceBEq, reduceCtorEq, Nat.reduceLT, Int.reduceLE, Int.reduceLT, Int.reduceEq, Nat.reduceMul, Nat.reduceLeDiff, hA, mA, hF, xA, Option.bind_none, List.length_map]
      (refine hQ _ ?_; simp only [vmA, Nat.reduceEqDiff, reduceIte, Nat.reduceAdd, Nat.reduceBEq, reduceCtorEq, Nat.reduceLT, Int.reduceLE, Int.reduceLT, Int.reduceEq, Nat.reduceMul, Nat.reduceLeDiff, Tryz.f70, retGM, resL, closeVsM, closeVM, St.closeV, hA, mA, hF, Option.bind_none])
      exact ⟨h, 0, hF h, rfl, wkV_hF h, hp, .inr ⟨fun z => hnf z.2.2.2, by decide⟩⟩
    · rcases hZb with ⟨e, _⟩ | ⟨_, hZ, hfit⟩
      · cases e
      have hh := house_end hp hi h1 hfit.2.2.1.2 hfit.2.2.2.2
      have hw1 : IntKind.i64.wrap (h.ck + 1) = h.ck + 1 := wr (by omega)
      cases hf : hasFro.hasFroL Z
      · simp only [vmA, Nat.reduceEqDiff, reduceIte, Nat.reduceAdd, Nat.reduceBEq, reduceCtorEq, Nat.reduceLT, Int.reduceLE, Int.reduceLT, Int.reduceEq, Nat.reduceMul, Nat.reduceLeDiff, hw1, hA, mA, hF, xA, Option.bind_none, List.length_map, behind_nf, hasFro, hf, List.take_length, mod0, List.set_cons_zero, List.set_cons_succ, leaves, map_froize_iA, map_froize_wA]
        refine ⟨⟨by omega, by omega⟩, by omega, ?_⟩
        (refine hQ _ ?_; simp only [vmA, Nat.reduceEqDiff, reduceIte, Nat.reduceAdd, Nat.reduceBEq, reduceCtorEq, Nat.reduceLT, Int.reduceLE, Int.reduceLT, Int.reduceEq, Nat.reduceMul, Nat.reduceLeDiff, Tryz.f70, retGM, resL, closeVsM, closeVM, St.closeV, hw1, hA, mA, hF, Option.bind_none])
        exact ⟨⟨wrtAll h.tx[who.toNat]!.ws (h.ck + 1) h.vs, h.ck + 1, h.tx.set who.toNat { h.tx[who.toNat]! with st := 2, fn := h.ck + 1 }⟩, _, _, rfl, wkV_set (T := .agg [.int .i64 2, .int .i64 h.tx[who.toNat]!.bg, .int .i64 (h.ck + 1), .fro none false (h.tx[who.toNat]!.rd.map iA), .fro none false (h.tx[who.toNat]!.ws.map wA)]) hZ (wk_xA { h.tx[who.toNat]! with st := 2, fn := h.ck + 1 }), hh, .inl ⟨⟨g1, h1, hlate, hfit⟩, rfl, rfl⟩⟩
      · simp only [vmA, Nat.reduceEqDiff, reduceIte, Nat.reduceAdd, Nat.reduceBEq, reduceCtorEq, Nat.reduceLT, Int.reduceLE, Int.reduceLT, Int.reduceEq, Nat.reduceMul, Nat.reduceLeDiff, hw1, hA, mA, hF, xA, Option.bind_none, List.length_map, behind_yes, hasFro, hf, freezeL, lentOf, List.take_length, mod0, List.set_cons_zero, List.set_cons_succ, leaves, map_froize_iA, map_froize_wA]
        refine ⟨⟨by omega, by omega⟩, by omega, ?_⟩
        (refine hQ _ ?_; simp only [vmA, Nat.reduceEqDiff, reduceIte, Nat.reduceAdd, Nat.reduceBEq, reduceCtorEq, Nat.reduceLT, Int.reduceLE, Int.reduceLT, Int.reduceEq, Nat.reduceMul, Nat.reduceLeDiff, Tryz.f70, retGM, resL, closeVsM, closeVM, St.closeV, hw1, hA, mA, hF, Option.bind_none])
        exact ⟨⟨wrtAll h.tx[who.toNat]!.ws (h.ck + 1) h.vs, h.ck + 1, h.tx.set who.toNat { h.tx[who.toNat]! with st := 2, fn := h.ck + 1 }⟩, _, _, rfl, wkV_set (T := .agg [.int .i64 2, .int .i64 h.tx[who.toNat]!.bg, .int .i64 (h.ck + 1), .fro none false (h.tx[who.toNat]!.rd.map iA), .fro none false (h.tx[who.toNat]!.ws.map wA)]) hZ (wk_xA { h.tx[who.toNat]! with st := 2, fn := h.ck + 1 }), hh, .inl ⟨⟨g1, h1, hlate, hfit⟩, rfl, rfl⟩⟩
