/- WALK, or plain laws for it: theorem f<k> says what function k returns. Conditions: none but those ahead of each theorem. -/
import Derived.Test.YtklhdnjhgbglhaaGreatYQL
import Derived.Test.YtklhdnjhgbglhaaGreatYQ2
set_option linter.unusedVariables false
set_option linter.unusedSimpArgs false
open Nat renaming reduceEqDiff → sN1, reduceAdd → sN2, reduceBEq → sN3, reduceLT → sN4, reduceMul → sN5, reduceLeDiff → sN6, reduceSub → sN7
open Int renaming reduceLE → sI1, reduceLT → sI2, reduceEq → sI3
section
open Go Go.Vm Go.Proofs
set_option maxRecDepth 100000
set_option maxHeartbeats 16000000
def endP (h : Hs) (who : Int) : Prop := (0 ≤ who ∧ who ≤ 3) ∧ h.tx[who.toNat]!.st = 1 ∧ ¬ lateP h h.tx[who.toNat]! ∧ fitP h.vs h.tx[who.toNat]!.ws (h.ck + 1)
def endT (h : Hs) (who : Int) : List Tx := h.tx.set who.toNat { h.tx[who.toNat]! with st := 2, fn := h.ck + 1 }
def endR (h : Hs) (who : Int) (tx : List Tx) (n : Int) : Prop := (endP h who ∧ n = 1 ∧ tx = endT h who) ∨ (¬ endP h who ∧ n ≠ 1)
theorem rowP_nil : rowP [] := ⟨by simp, by simp⟩
theorem f70E (h : Hs) (who : Int) (hp : houseP h) : FxR 70 [hA h, mA ⟨5, who, 0, []⟩] fun r l => ∃ (h' : Hs) (n : Int) (r0 : AV), r = .tup [r0, .int .i64 n] ∧ wk (froV r0) = hF h' ∧ houseP h' ∧ endR h who h'.tx n ∧ l = .und := by
  have ho := okH_P hp
  have hs := okH_smX hp
  have hl := hp.2.2.2.1
  refine fn_ofXM ⟨true, [100068, 100149, 100184], [(16, [], [0, 1, 2, 3, 4, 5, 6, 7, 8, 9, 10])]⟩ Tryz.func70 (by kernel_rfl) rfl (by kernel_rfl) (by kernel_rfl) (Nat.le_of_ble_eq_true rfl) rfl fun Q hQ => ?_
  simp only [tr_seq, tr_block, tr_loop, tr_cond, tr_skip, tr_exit, tr_ret, tr_reg]
  rw [tr_any 16 [(0, [], 0), (0, [], 1), (0, [], 2), (0, [], 3), (0, [], 4), (0, [], 5), (1, [0, 1, 2, 3, 4, 5], 6), (0, [], 7), (1, [0, 1, 2, 3, 7], 8), (0, [], 9), (1, [9], 10), (2, [], 0)] (by kernel_rfl)]
  simp only [codeA_nil, codeA_look, codeA_hard, codeA_fin, ordC_leaf, ordC_one, ordC_both, pickL, List.getElem?_toArray, List.getElem?_cons_zero, List.getElem?_cons_succ]
  simp only [vmA, sN1, reduceIte, sN2, sN3, reduceCtorEq, sN4, sI1, sI2, sI3, sN5, sN6, hA, mA]
  refine callD (f53 h ho) ?_
  simp only [vmA, sN1, reduceIte, sN2, sN3, reduceCtorEq, sN4, sI1, sI2, sI3, sN5, sN6, hA, mA, decide_eq_true hp]
  refine callR (f70F h ho.n ho.len (by omega) hs (by omega)) ?_
  rintro _ _ ⟨rfl, rfl⟩
  simp only [vmA, sN1, reduceIte, sN2, sN3, reduceCtorEq, sN4, sI1, sI2, sI3, sN5, sN6, hA, mA, hF, xA, Option.bind_none, List.length_map, List.map_nil]
  refine callD (f102 _ _ _) ?_
  simp only [vmA, sN1, reduceIte, sN2, sN3, reduceCtorEq, sN4, sI1, sI2, sI3, sN5, sN6, hA, mA, hF, xA, Option.bind_none, List.length_map, List.map_nil]
  refine ⟨fun g1 => ?_, fun g1 => callD (f102 0 0 4) ?_⟩
  · (refine hQ _ ?_; simp only [vmA, sN1, reduceIte, sN2, sN3, reduceCtorEq, sN4, sI1, sI2, sI3, sN5, sN6, Tryz.f70, retGM, resL, closeVsM, closeVM, St.closeV, hA, mA, hF, Option.bind_none])
    exact ⟨h, 0, hF h, rfl, wkV_hF h, hp, .inr ⟨fun z => g1 z.1, by decide⟩⟩
  simp only [vmA, sN1, reduceIte, sN2, sN3, reduceCtorEq, sN4, sI1, sI2, sI3, sN5, sN6, hA, mA, hF, xA, Option.bind_none, List.length_map, List.map_nil, decide_eq_true (show (0 : Int) ≤ 0 ∧ (0 : Int) ≤ 4 by omega)]
  refine callD (f126 [] false (by simp) (by simp)) ?_
  simp only [vmA, sN1, reduceIte, sN2, sN3, reduceCtorEq, sN4, sI1, sI2, sI3, sN5, sN6, hA, mA, hF, xA, Option.bind_none, List.length_map, List.map_nil, decide_eq_true rowP_nil, List.length_nil]
  have hx : (0 ≤ who ∧ who ≤ 3) → who.toNat < 4 := fun h => by omega
  have hi : who.toNat < 4 := by omega
  have hx : txP h.tx[who.toNat]! h.ck := hp.2.2.2.2.1 _ hi
  have hmem : h.tx[who.toNat]! ∈ h.tx := by rw [getElem!_pos h.tx _ (by omega)]; exact List.getElem_mem _
  have hsm := hs _ hmem
  have hok := okX_P hx hsm
  have hck := hp.2.1
  have hopen : h.tx[who.toNat]!.st = 1 → h.tx[who.toNat]!.fn = 0 ∧ txB h.tx[who.toNat]! h.ck := fun h1 => by
    rcases hx with ⟨a, _⟩ | ⟨a, _⟩ | ⟨_, a⟩
    · omega
    · omega
    · exact a
  refine ⟨fun z0 => absurd z0 (by omega), fun _ => ⟨⟨by omega, by omega⟩, by omega, fun h1 => ?_, fun h1 => callD (f130x h h.tx[who.toNat]! hp ho hok) ?_⟩⟩
  · (refine hQ _ ?_; simp only [vmA, sN1, reduceIte, sN2, sN3, reduceCtorEq, sN4, sI1, sI2, sI3, sN5, sN6, Tryz.f70, retGM, resL, closeVsM, closeVM, St.closeV, hA, mA, hF, Option.bind_none])
    exact ⟨h, 0, hF h, rfl, wkV_hF h, hp, .inr ⟨fun z => h1 z.2.1, by decide⟩⟩
  obtain ⟨hfn, hb⟩ := hopen h1
  simp only [vmA, sN1, reduceIte, sN2, sN3, reduceCtorEq, sN4, sI1, sI2, sI3, sN5, sN6, hA, mA, hF, xA, Option.bind_none, List.length_map, mod0, List.set_cons_zero, List.set_cons_succ, leaves, map_froize_iA, map_froize_wA]
  refine ⟨fun hlate => ⟨⟨by omega, by omega⟩, by omega, ?_⟩, fun hlate => ?_⟩
  · (refine hQ _ ?_; simp only [vmA, sN1, reduceIte, sN2, sN3, reduceCtorEq, sN4, sI1, sI2, sI3, sN5, sN6, Tryz.f70, retGM, resL, closeVsM, closeVM, St.closeV, hA, mA, hF, Option.bind_none])
    exact ⟨⟨h.vs, h.ck, h.tx.set who.toNat { h.tx[who.toNat]! with st := 3 }⟩, _, _, rfl, wkV_set (map_froize_gA _) (wk_xA { h.tx[who.toNat]! with st := 3 }), house_set hp hi (.inr (.inr ⟨.inr rfl, hfn, hb⟩)) (by show (3 : Int) ≠ 2; decide), .inr ⟨fun z => z.2.2.1 hlate, by decide⟩⟩
  · rw [wr (by omega)]
    have hv := (verP_iff.1 hp.1)
    have hwl : h.tx[who.toNat]!.ws.length ≤ 1000 := by have := wrsP_len hb.2.2; omega
    refine callR (f131x h.vs h.tx[who.toNat]!.ws false false (h.ck + 1) (by omega) ho.row ho.len hwl hok.2.2 hsm.2.2) ?_
    rintro _ _ ⟨⟨Z, b, rfl, hZb⟩, rfl⟩
    cases b
    · rcases hZb with ⟨_, rfl, hnf⟩ | ⟨e, _⟩
      rotate_left
      · cases e
      simp only [vmA, sN1, reduceIte, sN2, sN3, reduceCtorEq, sN4, sI1, sI2, sI3, sN5, sN6, hA, mA, hF, xA, Option.bind_none, List.length_map]
      (refine hQ _ ?_; simp only [vmA, sN1, reduceIte, sN2, sN3, reduceCtorEq, sN4, sI1, sI2, sI3, sN5, sN6, Tryz.f70, retGM, resL, closeVsM, closeVM, St.closeV, hA, mA, hF, Option.bind_none])
      exact ⟨h, 0, hF h, rfl, wkV_hF h, hp, .inr ⟨fun z => hnf z.2.2.2, by decide⟩⟩
    · rcases hZb with ⟨e, _⟩ | ⟨_, hZ, hfit⟩
      · cases e
      have hh := house_end hp hi h1 hfit.2.2.1.2 hfit.2.2.2.2
      have hw1 : IntKind.i64.wrap (h.ck + 1) = h.ck + 1 := wr (by omega)
      cases hf : hasFro.hasFroL Z
      · simp only [vmA, sN1, reduceIte, sN2, sN3, reduceCtorEq, sN4, sI1, sI2, sI3, sN5, sN6, hw1, hA, mA, hF, xA, Option.bind_none, List.length_map, behind_nf, hasFro, hf, List.take_length, mod0, List.set_cons_zero, List.set_cons_succ, leaves, map_froize_iA, map_froize_wA]
        refine ⟨⟨by omega, by omega⟩, by omega, ?_⟩
        (refine hQ _ ?_; simp only [vmA, sN1, reduceIte, sN2, sN3, reduceCtorEq, sN4, sI1, sI2, sI3, sN5, sN6, Tryz.f70, retGM, resL, closeVsM, closeVM, St.closeV, hw1, hA, mA, hF, Option.bind_none])
        exact ⟨⟨wrtAll h.tx[who.toNat]!.ws (h.ck + 1) h.vs, h.ck + 1, h.tx.set who.toNat { h.tx[who.toNat]! with st := 2, fn := h.ck + 1 }⟩, _, _, rfl, wkV_set (T := .agg [.int .i64 2, .int .i64 h.tx[who.toNat]!.bg, .int .i64 (h.ck + 1), .fro none false (h.tx[who.toNat]!.rd.map iA), .fro none false (h.tx[who.toNat]!.ws.map wA)]) hZ (wk_xA { h.tx[who.toNat]! with st := 2, fn := h.ck + 1 }), hh, .inl ⟨⟨g1, h1, hlate, hfit⟩, rfl, rfl⟩⟩
      · simp only [vmA, sN1, reduceIte, sN2, sN3, reduceCtorEq, sN4, sI1, sI2, sI3, sN5, sN6, hw1, hA, mA, hF, xA, Option.bind_none, List.length_map, behind_yes, hasFro, hf, freezeL, lentOf, List.take_length, mod0, List.set_cons_zero, List.set_cons_succ, leaves, map_froize_iA, map_froize_wA]
        refine ⟨⟨by omega, by omega⟩, by omega, ?_⟩
        (refine hQ _ ?_; simp only [vmA, sN1, reduceIte, sN2, sN3, reduceCtorEq, sN4, sI1, sI2, sI3, sN5, sN6, Tryz.f70, retGM, resL, closeVsM, closeVM, St.closeV, hw1, hA, mA, hF, Option.bind_none])
        exact ⟨⟨wrtAll h.tx[who.toNat]!.ws (h.ck + 1) h.vs, h.ck + 1, h.tx.set who.toNat { h.tx[who.toNat]! with st := 2, fn := h.ck + 1 }⟩, _, _, rfl, wkV_set (T := .agg [.int .i64 2, .int .i64 h.tx[who.toNat]!.bg, .int .i64 (h.ck + 1), .fro none false (h.tx[who.toNat]!.rd.map iA), .fro none false (h.tx[who.toNat]!.ws.map wA)]) hZ (wk_xA { h.tx[who.toNat]! with st := 2, fn := h.ck + 1 }), hh, .inl ⟨⟨g1, h1, hlate, hfit⟩, rfl, rfl⟩⟩
end
section
open Go Go.Vm Go.Proofs
set_option maxRecDepth 100000
set_option maxHeartbeats 16000000
def zmA (who : Int) : AV := .agg [.int .i64 5, .int .i64 who, .int .i64 0, .fro none true []]
theorem f70EA (h : Hs) (who : Int) (hp : houseP h) : FxR 70 [hA h, zmA who] fun r l => ∃ (h' : Hs) (n : Int), r = .tup [hA h', .int .i64 n] ∧ houseP h' ∧ endR h who h'.tx n ∧ l = .und := by
  have h0 := f70E h who hp
  have e : List.map wk [hA h, zmA who] = [hA h, mA ⟨5, who, 0, []⟩] := by
    simp only [List.map_cons, List.map_nil, hA, wk, wkL, wkL_eq, map_wk_gA, wk_xAs, zmA, mA]
  have h1 : FxR 70 [hA h, zmA who] fun r l => ∃ (h' : Hs) (n : Int) (r0 : AV), r = .tup [r0, .int .i64 n] ∧ wk (froV r0) = hF h' ∧ houseP h' ∧ endR h who h'.tx n ∧ l = .und := ⟨h0.1, DoesR.wkA (args := [hA h, zmA who]) (by rw [e]; exact h0.2) (by kernel_rfl) rfl⟩
  have h2 : FxR 70 [hA h, zmA who] fun r l => ∃ (h' : Hs) (n : Int), r = .tup [hF h', .int .i64 n] ∧ houseP h' ∧ endR h who h'.tx n ∧ l = .und := by
    refine FxR.wkR (R := _) ⟨h1.1, DoesR.froI h1.2⟩ ?_
    rintro r l ⟨r0, ⟨h', n, r1, rfl, e, hp', he, rfl⟩, rfl⟩
    refine ⟨h', n, ?_, hp', he, rfl⟩
    rw [← e]
    rfl
  refine FxR.mono (R := _) ⟨h2.1, DoesR.froA h2.2⟩ ?_
  rintro r l ⟨r0, ⟨h', n, rfl, hp', he, rfl⟩, rfl⟩
  exact ⟨h', n, by simp only [froR, List.map_cons, List.map_nil, froize_hF]; rfl, hp', he, rfl⟩
theorem f70N (h : Hs) (who : Int) (ho : okH h) (hn : ¬ houseP h) : FxR 70 [hA h, zmA who] fun r l => r = .tup [.agg [.fro none true [], .int .i64 0, .fro none true []], .int .i64 0] ∧ l = .und := by
  refine fn_ofX ⟨true, [100068, 100149, 100184], [(16, [], [0, 1, 2, 3, 4, 5, 6, 7, 8, 9, 10])]⟩ Tryz.func70 (by kernel_rfl) rfl (by kernel_rfl) (by kernel_rfl) (Nat.le_of_ble_eq_true rfl) rfl fun Q hQ => ?_
  simp only [tr_seq, tr_block, tr_loop, tr_cond, tr_skip, tr_exit, tr_ret, tr_reg]
  rw [tr_any 16 [(0, [], 0), (0, [], 1), (0, [], 2), (0, [], 3), (0, [], 4), (0, [], 5), (1, [0, 1, 2, 3, 4, 5], 6), (0, [], 7), (1, [0, 1, 2, 3, 7], 8), (0, [], 9), (1, [9], 10), (2, [], 0)] (by kernel_rfl)]
  simp only [codeA_nil, codeA_look, codeA_hard, codeA_fin, ordC_leaf, ordC_one, ordC_both, pickL, List.getElem?_toArray, List.getElem?_cons_zero, List.getElem?_cons_succ]
  simp only [vmA, sN1, reduceIte, sN2, sN3, reduceCtorEq, sN4, sI1, sI2, sI3, sN5, sN6, hA, zmA]
  refine callD (f53 h ho) ?_
  simp only [vmA, sN1, reduceIte, sN2, sN3, reduceCtorEq, sN4, sI1, sI2, sI3, sN5, sN6, hA, zmA, decide_eq_false hn, Option.bind_none]
  (refine hQ _ ?_; simp only [vmA, sN1, reduceIte, sN2, sN3, reduceCtorEq, sN4, sI1, sI2, sI3, sN5, sN6, Tryz.f70, retG, resL, St.closeVs, St.closeV, hA, zmA, Option.bind_none])
open Classical in
noncomputable def safeS (h : Hs) (who : Int) : List Int := if houseP h ∧ endP h who then outS (danL (endT h who)) who else []
theorem f34 (h : Hs) (who : Int) (ho : okH h) : Fx 34 [hA h, .int .i64 who] (.own 1 ((safeS h who).map iA)) := by
  refine FxR.mono (R := fun r l => r = .own 1 ((safeS h who).map iA) ∧ l = .und) ?_ (fun _ _ h => h)
  refine fn_ofR ⟨false, [], []⟩ Tryz.func34 (by kernel_rfl) rfl (by kernel_rfl) (by kernel_rfl) (Nat.le_of_ble_eq_true rfl) rfl fun Q hQ => ?_
  simp only [vmA, sN1, reduceIte, sN2, sN3, reduceCtorEq, sN4, sI1, sI2, sI3, sN5, sN6, hA]
  by_cases hp : houseP h
  rotate_left
  · refine callR (f70N h who ho hp) ?_
    rintro _ _ ⟨rfl, rfl⟩
    simp only [vmA, sN1, reduceIte, sN2, sN3, reduceCtorEq, sN4, sI1, sI2, sI3, sN5, sN6, hA]
    have hs : safeS h who = [] := if_neg fun z => hp z.1
    (refine hQ _ ?_; simp only [vmA, sN1, reduceIte, sN2, sN3, reduceCtorEq, sN4, sI1, sI2, sI3, sN5, sN6, Tryz.f34, retG, resL, St.closeVs, St.closeV, hA, hs])
  refine callR (f70EA h who hp) ?_
  rintro _ _ ⟨h', n, rfl, hp', he, rfl⟩
  simp only [vmA, sN1, reduceIte, sN2, sN3, reduceCtorEq, sN4, sI1, sI2, sI3, sN5, sN6, hA]
  rcases he with ⟨he, rfl, ht⟩ | ⟨he, hn⟩
  rotate_left
  · simp only [vmA, sN1, reduceIte, sN2, sN3, reduceCtorEq, sN4, sI1, sI2, sI3, sN5, sN6, hA, eq_false hn]
    have hs : safeS h who = [] := if_neg fun z => he z.2
    (refine hQ _ ?_; simp only [vmA, sN1, reduceIte, sN2, sN3, reduceCtorEq, sN4, sI1, sI2, sI3, sN5, sN6, Tryz.f34, retG, resL, St.closeVs, St.closeV, hA, hs])
  have f : Fx 71 [hA h'] (.own 1 ((danL (endT h who)).map iA)) := by
    have := f71 h' (okH_P hp') hp'
    rwa [ht] at this
  have hres : safeS h who = outS (danL (endT h who)) who := if_pos ⟨hp, he⟩
  have hLl := dan_len (endT h who)
  rw [hres] at hQ
  generalize danL (endT h who) = L at hLl f hQ
  simp only [vmA, sN1, reduceIte, sN2, sN3, reduceCtorEq, sN4, sI1, sI2, sI3, sN5, sN6, hA]
  refine callD f ?_
  simp only [vmA, sN1, reduceIte, sN2, sN3, reduceCtorEq, sN4, sI1, sI2, sI3, sN5, sN6, hA, List.length_map]
  refine WT_loopR (fun (zz : Nat × Nat) σ => (zz.1 ≤ 4) ∧ σ.sl 9 = .int .i64 zz.1 ∧ σ.sl 8 = .hd 1536 1 0 L.length false ∧ σ.sl 1 = .int .i64 who ∧ (σ.en 1536).live = true ∧ (σ.en 1536).gen = 1 ∧ (σ.en 1536).frz = false ∧ (σ.en 1536).sz = 1 ∧ (σ.en 1536).elems = L.map iA ∧ σ.sl 5 = .hd 320 zz.2 0 ((outN L who zz.1).length) false ∧ (σ.en 320).live = true ∧ (σ.en 320).gen = zz.2 ∧ (σ.en 320).frz = false ∧ (σ.en 320).sz = 1 ∧ (σ.en 320).elems = (outN L who zz.1).map iA) (fun zz => 4 - zz.1) 5 ?_ ?_
  · simp only [vmA, sN1, reduceIte, sN2, sN3, reduceCtorEq, sN4, sI1, sI2, sI3, sN5, sN6, reown]
    exact ⟨(0, 1), Nat.zero_le _, rfl, rfl, rfl, rfl⟩
  rintro ⟨k, γ⟩ σ ⟨hk, e9, e8, e1, m1536a, m1536b, m1536c, m1536d, m1536e, e5, m320a, m320b, m320c, m320d, m320e⟩
  try dsimp only at e9 e8 e1 m1536a m1536b m1536c m1536d m1536e e5 m320a m320b m320c m320d m320e hk
  have hml := outN_length L who k
  simp only [vmA, sN1, reduceIte, sN2, sN3, reduceCtorEq, sN4, sI1, sI2, sI3, sN5, sN6, e9, e8, e1, m1536a, m1536b, m1536c, m1536d, m1536e, e5, m320a, m320b, m320c, m320d, m320e, List.length_map]
  refine ⟨fun hlt => ?_, fun hge => ?_⟩
  · skip
    refine WT_loop (fun (zz : Nat × Bool) σ => (zz.1 ≤ L.length ∧ (zz.2 = true ↔ ∃ m, m < zz.1 ∧ L[m]! = (k : Int))) ∧ σ.sl 11 = .int .i64 zz.1 ∧ σ.sl 10 = .bool zz.2 ∧ σ.sl 9 = .int .i64 k ∧ σ.sl 8 = .hd 1536 1 0 L.length false ∧ σ.sl 1 = .int .i64 who ∧ (σ.en 1536).live = true ∧ (σ.en 1536).gen = 1 ∧ (σ.en 1536).frz = false ∧ (σ.en 1536).sz = 1 ∧ (σ.en 1536).elems = L.map iA ∧ σ.sl 5 = .hd 320 γ 0 ((outN L who k).length) false ∧ (σ.en 320).live = true ∧ (σ.en 320).gen = γ ∧ (σ.en 320).frz = false ∧ (σ.en 320).sz = 1 ∧ (σ.en 320).elems = (outN L who k).map iA) (fun zz => L.length - zz.1) ((0, false)) ⟨⟨Nat.zero_le _, fun e => (by cases e), fun ⟨m, hm, _⟩ => absurd hm (Nat.not_lt_zero _)⟩, by simp [vmI, e9, e8, e1, m1536a, m1536b, m1536c, m1536d, m1536e, e5, m320a, m320b, m320c, m320d, m320e], by simp [vmI, e9, e8, e1, m1536a, m1536b, m1536c, m1536d, m1536e, e5, m320a, m320b, m320c, m320d, m320e], by simp [vmI, e9, e8, e1, m1536a, m1536b, m1536c, m1536d, m1536e, e5, m320a, m320b, m320c, m320d, m320e], by simp [vmI, e9, e8, e1, m1536a, m1536b, m1536c, m1536d, m1536e, e5, m320a, m320b, m320c, m320d, m320e], by simp [vmI, e9, e8, e1, m1536a, m1536b, m1536c, m1536d, m1536e, e5, m320a, m320b, m320c, m320d, m320e], by simp [vmI, e9, e8, e1, m1536a, m1536b, m1536c, m1536d, m1536e, e5, m320a, m320b, m320c, m320d, m320e], by simp [vmI, e9, e8, e1, m1536a, m1536b, m1536c, m1536d, m1536e, e5, m320a, m320b, m320c, m320d, m320e], by simp [vmI, e9, e8, e1, m1536a, m1536b, m1536c, m1536d, m1536e, e5, m320a, m320b, m320c, m320d, m320e], by simp [vmI, e9, e8, e1, m1536a, m1536b, m1536c, m1536d, m1536e, e5, m320a, m320b, m320c, m320d, m320e], by simp [vmI, e9, e8, e1, m1536a, m1536b, m1536c, m1536d, m1536e, e5, m320a, m320b, m320c, m320d, m320e], by simp [vmI, e9, e8, e1, m1536a, m1536b, m1536c, m1536d, m1536e, e5, m320a, m320b, m320c, m320d, m320e], by simp [vmI, e9, e8, e1, m1536a, m1536b, m1536c, m1536d, m1536e, e5, m320a, m320b, m320c, m320d, m320e], by simp [vmI, e9, e8, e1, m1536a, m1536b, m1536c, m1536d, m1536e, e5, m320a, m320b, m320c, m320d, m320e], by simp [vmI, e9, e8, e1, m1536a, m1536b, m1536c, m1536d, m1536e, e5, m320a, m320b, m320c, m320d, m320e], by simp [vmI, e9, e8, e1, m1536a, m1536b, m1536c, m1536d, m1536e, e5, m320a, m320b, m320c, m320d, m320e], by simp [vmI, e9, e8, e1, m1536a, m1536b, m1536c, m1536d, m1536e, e5, m320a, m320b, m320c, m320d, m320e]⟩ ?_
    clear e9 e8 e1 m1536a m1536b m1536c m1536d m1536e e5 m320a m320b m320c m320d m320e
    rintro ⟨j, b⟩ σ ⟨hj, e11, e10, e9, e8, e1, m1536a, m1536b, m1536c, m1536d, m1536e, e5, m320a, m320b, m320c, m320d, m320e⟩
    try dsimp only at e11 e10 e9 e8 e1 m1536a m1536b m1536c m1536d m1536e e5 m320a m320b m320c m320d m320e hj
    obtain ⟨hj, hb⟩ := hj
    have hmem : j = L.length → (b = true ↔ (k : Int) ∈ L) := fun e => by
      subst e
      rw [hb, mem_at]
    cases b
    · simp only [vmA, sN1, reduceIte, sN2, sN3, reduceCtorEq, sN4, sI1, sI2, sI3, sN5, sN6, e11, e10, e9, e8, e1, m1536a, m1536b, m1536c, m1536d, m1536e, e5, m320a, m320b, m320c, m320d, m320e, List.length_map, Option.bind_none, reown]
      refine ⟨fun g1 => ⟨g1, by omega, ?_⟩, fun g1 => ?_⟩
      · rw [wr (by omega)]
        refine ⟨(j + 1, decide (L[j]! = (k : Int))), ⟨⟨by dsimp only; omega, ?_⟩, rfl, rfl⟩, by dsimp only; omega⟩
        show decide (L[j]! = (k : Int)) = true ↔ _
        rw [decide_eq_true_eq]
        constructor
        · intro e; exact ⟨j, by dsimp only; omega, e⟩
        · rintro ⟨m, hm, e⟩
          dsimp only at hm
          by_cases hmj : m = j
          · rw [← hmj]; exact e
          · have := hb.2 ⟨m, by omega, e⟩
            cases this
      · rw [wr (by omega)]
        have hno : ¬ ((k : Int) ∈ L ∧ (k : Int) ≠ who) := fun z => by
          have := (hmem (by omega)).2 z.1
          cases this
        refine ⟨(k + 1, γ + 1), ⟨by dsimp only; omega, rfl, ?_⟩, by dsimp only; omega⟩
        dsimp only
        rw [outN_no hno]
        exact ⟨rfl, rfl, rfl⟩
    · simp only [vmA, sN1, reduceIte, sN2, sN3, reduceCtorEq, sN4, sI1, sI2, sI3, sN5, sN6, e11, e10, e9, e8, e1, m1536a, m1536b, m1536c, m1536d, m1536e, e5, m320a, m320b, m320c, m320d, m320e, List.length_map, Option.bind_none, reown]
      refine ⟨fun g1 => ?_, fun g1 => ⟨fun q1 => ?_, fun q1 => ?_⟩⟩
      · rw [wr (by omega)]
        refine ⟨(j + 1, true), ⟨⟨by dsimp only; omega, fun _ => ?_, fun _ => rfl⟩, rfl, rfl⟩, by dsimp only; omega⟩
        obtain ⟨m, hm, e⟩ := hb.1 rfl
        exact ⟨m, by dsimp only; omega, e⟩
      · have hin := (hmem (by omega)).1 rfl
        rw [wr (by omega)]
        refine ⟨⟨by omega, by omega⟩, by simp, (k + 1, γ + 1 + 1), ⟨by dsimp only; omega, rfl, ?_⟩, by dsimp only; omega⟩
        dsimp only
        rw [outN_yes hin q1, app_iA, tk1, len1, List.length_map, len1]
        exact ⟨rfl, rfl, rfl⟩
      · have hno : ¬ ((k : Int) ∈ L ∧ (k : Int) ≠ who) := fun z => z.2 q1
        rw [wr (by omega)]
        refine ⟨(k + 1, γ + 1), ⟨by dsimp only; omega, rfl, ?_⟩, by dsimp only; omega⟩
        dsimp only
        rw [outN_no hno]
        exact ⟨rfl, rfl, rfl⟩
  · obtain rfl : k = 4 := by omega
    (refine hQ _ ?_; simp only [vmA, sN1, reduceIte, sN2, sN3, reduceCtorEq, sN4, sI1, sI2, sI3, sN5, sN6, Tryz.f34, retG, resL, St.closeVs, St.closeV, e9, e8, e1, m1536a, m1536b, m1536c, m1536d, m1536e, e5, m320a, m320b, m320c, m320d, m320e, List.length_map, take_map_len])
    rfl
end
