/- WALK of functions of the seat, or plain laws for it: each theorem f<k> says what function k returns, for every world and all arguments that stand for the values named. Conditions: none but those ahead of each theorem. -/
import Derived.Test.YtklhdnjhgbglhaaYH11
import Derived.Test.YtklhdnjhgbglhaaYFz2
open Go Go.Vm Go.Proofs
set_option maxRecDepth 100000
set_option maxHeartbeats 16000000
set_option linter.unusedSimpArgs false
set_option linter.unusedVariables false
theorem f71F (h : Hs) (m : Mv) (hp : houseP h) (hm : okR m.row) (hm2 : m.row.length ≤ 1048576) : FxR 71 [hA h, mA m] fun r l => ∃ (h' : Hs) (n : Int), r = .tup [hF h', .int .i64 n] ∧ houseP h' ∧ l = .und := by
  have h1 := f71 h m hp hm hm2
  refine FxR.wkR (R := _) ⟨h1.1, DoesR.froI h1.2⟩ ?_
  rintro r l ⟨r0, ⟨h', n, r1, rfl, e, hp', rfl⟩, rfl⟩
  refine ⟨h', n, ?_, hp', rfl⟩
  rw [← e]
  rfl
theorem froize_hF (h : Hs) : froize (hF h) = hA h := by simp only [hF, froize, froizeL, froizeL_eq, hA, map_froize_gA, map_froize_xA]
theorem f71A (h : Hs) (m : Mv) (hp : houseP h) (hm : okR m.row) (hm2 : m.row.length ≤ 1048576) : FxR 71 [hA h, mA m] fun r l => ∃ (h' : Hs) (n : Int), r = .tup [hA h', .int .i64 n] ∧ houseP h' ∧ l = .und := by
  have h1 := f71F h m hp hm hm2
  refine FxR.mono (R := _) ⟨h1.1, DoesR.froA h1.2⟩ ?_
  rintro r l ⟨r0, ⟨h', n, rfl, hp', rfl⟩, rfl⟩
  exact ⟨h', n, by simp only [froR, List.map_cons, List.map_nil, froize_hF]; rfl, hp', rfl⟩
theorem f70A (h : Hs) (hp : houseP h) : FxR 70 [hA h] fun r l => r = hA h ∧ l = .und := by
  have ho := okH_P hp
  have h1 := f70F h ho.n ho.len (by have := hp.2.2.2.1; omega) (okH_smX hp) (by have := hp.2.2.2.1; omega)
  refine FxR.mono (R := _) ⟨h1.1, DoesR.froA h1.2⟩ ?_
  rintro r l ⟨r0, ⟨rfl, rfl⟩, rfl⟩
  exact ⟨by simp only [hF, froR]; exact froize_hF h, rfl⟩
instance : Inhabited Mv := ⟨⟨0, 0, 0, []⟩⟩
/-- A house in a variable: if more is to come, nobody writes it any more. -/
def hI (b : Bool) (h : Hs) : AV := if b then hA h else hF h
theorem f42 (h : Hs) (hp : houseP h) (ms : List Mv) (c : Bool) (hn : ms.length ≤ 1048576) (hm : ∀ m ∈ ms, okR m.row ∧ m.row.length ≤ 1048576) : FxR 42 [hA h, .fro none c (ms.map mA)] fun r l => ∃ h', r = hF h' ∧ houseP h' ∧ l = .und := by
  have ho := okH_P hp
  have hs := okH_smX hp
  have hl := hp.2.2.2.1
  refine fn_ofX ⟨true, [], [(8, [], [0, 1, 2, 3, 4, 5, 6, 7, 8, 9])]⟩ Try.func42 (by kernel_rfl) rfl (by kernel_rfl) (by kernel_rfl) (Nat.le_of_ble_eq_true rfl) rfl fun Q hQ => ?_
  simp only [tr_seq, tr_block, tr_loop, tr_cond, tr_skip, tr_exit, tr_ret, tr_reg]
  rw [tr_any 8 [(0, [], 0), (0, [], 1), (0, [], 2), (0, [], 3), (0, [], 4), (1, [0, 1, 2, 3, 4], 5), (0, [], 6), (0, [], 7), (0, [], 8), (1, [6, 7, 8], 9), (2, [8], 0)] (by kernel_rfl)]
  simp only [codeA_nil, codeA_look, codeA_hard, codeA_fin, ordC_leaf, ordC_one, ordC_both, pickL, List.getElem?_toArray, List.getElem?_cons_zero, List.getElem?_cons_succ]
  simp only [vmA, Nat.reduceEqDiff, reduceIte, Nat.reduceAdd, Nat.reduceBEq, reduceCtorEq, Nat.reduceLT, Int.reduceLE, Int.reduceLT, Int.reduceEq, Nat.reduceMul, Nat.reduceLeDiff, hA, Option.bind_none]
  refine callD (f22 h ho) ?_
  simp only [vmA, Nat.reduceEqDiff, reduceIte, Nat.reduceAdd, Nat.reduceBEq, reduceCtorEq, Nat.reduceLT, Int.reduceLE, Int.reduceLT, Int.reduceEq, Nat.reduceMul, Nat.reduceLeDiff, hA, decide_eq_true hp, Option.bind_none]
  have once1 := fun oC oD oc oQ og => @once oC oD (Unit) (fun (u : Unit) σ => σ.sl 1 = .fro none c (ms.map mA) ∧ σ.sl 4 = .ptr 256 1 0 0 ∧ (σ.en 256).live = true ∧ (σ.en 256).gen = 1 ∧ (σ.en 256).frz = false ∧ (σ.en 256).sz = 3 ∧ (σ.en 256).elems = [.agg [.fro none true [], .int .i64 0, .fro none true []]] ∧ σ.sl 5 = .ptr 320 1 0 0 ∧ (σ.en 320).live = true ∧ (σ.en 320).gen = 1 ∧ (σ.en 320).frz = false ∧ (σ.en 320).sz = 3 ∧ (σ.en 320).elems = [hI (decide (0 < ms.length)) h] ∧ σ.sl 6 = .int .i64 0) oc oQ og
  apply once1
  · intro key
    by_cases h0 : 0 < ms.length
    · have hX : hI (decide (0 < ms.length)) h = hA h := by simp [hI, h0]
      refine callR (f70A h hp) ?_
      rintro _ _ ⟨rfl, rfl⟩
      simp only [vmC, Nat.reduceEqDiff, reduceIte, Nat.reduceAdd, Nat.reduceBEq, reduceCtorEq, Nat.reduceLT, Int.reduceLE, Int.reduceLT, Int.reduceEq, Nat.reduceMul, Nat.reduceLeDiff, hA, Option.bind_none]
      exact key (()) _ ⟨by simp [put_sl, put_en, put_none, init_sl, fresh_sl, fresh_en, ent_sl, ent_en, init_en, hX, hA, kill_sl, kill_en], by simp [put_sl, put_en, put_none, init_sl, fresh_sl, fresh_en, ent_sl, ent_en, init_en, hX, hA, kill_sl, kill_en], by simp [put_sl, put_en, put_none, init_sl, fresh_sl, fresh_en, ent_sl, ent_en, init_en, hX, hA, kill_sl, kill_en], by simp [put_sl, put_en, put_none, init_sl, fresh_sl, fresh_en, ent_sl, ent_en, init_en, hX, hA, kill_sl, kill_en], by simp [put_sl, put_en, put_none, init_sl, fresh_sl, fresh_en, ent_sl, ent_en, init_en, hX, hA, kill_sl, kill_en], by simp [put_sl, put_en, put_none, init_sl, fresh_sl, fresh_en, ent_sl, ent_en, init_en, hX, hA, kill_sl, kill_en], by simp [put_sl, put_en, put_none, init_sl, fresh_sl, fresh_en, ent_sl, ent_en, init_en, hX, hA, kill_sl, kill_en], by simp [put_sl, put_en, put_none, init_sl, fresh_sl, fresh_en, ent_sl, ent_en, init_en, hX, hA, kill_sl, kill_en], by simp [put_sl, put_en, put_none, init_sl, fresh_sl, fresh_en, ent_sl, ent_en, init_en, hX, hA, kill_sl, kill_en], by simp [put_sl, put_en, put_none, init_sl, fresh_sl, fresh_en, ent_sl, ent_en, init_en, hX, hA, kill_sl, kill_en], by simp [put_sl, put_en, put_none, init_sl, fresh_sl, fresh_en, ent_sl, ent_en, init_en, hX, hA, kill_sl, kill_en], by simp [put_sl, put_en, put_none, init_sl, fresh_sl, fresh_en, ent_sl, ent_en, init_en, hX, hA, kill_sl, kill_en], by simp [put_sl, put_en, put_none, init_sl, fresh_sl, fresh_en, ent_sl, ent_en, init_en, hX, hA, kill_sl, kill_en], by simp [put_sl, put_en, put_none, init_sl, fresh_sl, fresh_en, ent_sl, ent_en, init_en, hX, hA, kill_sl, kill_en]⟩ _
    · have hX : hI (decide (0 < ms.length)) h = hF h := by simp [hI, h0]
      refine callR (f70F h ho.n ho.len (by omega) hs (by omega)) ?_
      rintro _ _ ⟨rfl, rfl⟩
      simp only [vmC, Nat.reduceEqDiff, reduceIte, Nat.reduceAdd, Nat.reduceBEq, reduceCtorEq, Nat.reduceLT, Int.reduceLE, Int.reduceLT, Int.reduceEq, Nat.reduceMul, Nat.reduceLeDiff, hA, hF, Option.bind_none]
      exact key (()) _ ⟨by simp [put_sl, put_en, put_none, init_sl, fresh_sl, fresh_en, ent_sl, ent_en, init_en, hX, hF, kill_sl, kill_en], by simp [put_sl, put_en, put_none, init_sl, fresh_sl, fresh_en, ent_sl, ent_en, init_en, hX, hF, kill_sl, kill_en], by simp [put_sl, put_en, put_none, init_sl, fresh_sl, fresh_en, ent_sl, ent_en, init_en, hX, hF, kill_sl, kill_en], by simp [put_sl, put_en, put_none, init_sl, fresh_sl, fresh_en, ent_sl, ent_en, init_en, hX, hF, kill_sl, kill_en], by simp [put_sl, put_en, put_none, init_sl, fresh_sl, fresh_en, ent_sl, ent_en, init_en, hX, hF, kill_sl, kill_en], by simp [put_sl, put_en, put_none, init_sl, fresh_sl, fresh_en, ent_sl, ent_en, init_en, hX, hF, kill_sl, kill_en], by simp [put_sl, put_en, put_none, init_sl, fresh_sl, fresh_en, ent_sl, ent_en, init_en, hX, hF, kill_sl, kill_en], by simp [put_sl, put_en, put_none, init_sl, fresh_sl, fresh_en, ent_sl, ent_en, init_en, hX, hF, kill_sl, kill_en], by simp [put_sl, put_en, put_none, init_sl, fresh_sl, fresh_en, ent_sl, ent_en, init_en, hX, hF, kill_sl, kill_en], by simp [put_sl, put_en, put_none, init_sl, fresh_sl, fresh_en, ent_sl, ent_en, init_en, hX, hF, kill_sl, kill_en], by simp [put_sl, put_en, put_none, init_sl, fresh_sl, fresh_en, ent_sl, ent_en, init_en, hX, hF, kill_sl, kill_en], by simp [put_sl, put_en, put_none, init_sl, fresh_sl, fresh_en, ent_sl, ent_en, init_en, hX, hF, kill_sl, kill_en], by simp [put_sl, put_en, put_none, init_sl, fresh_sl, fresh_en, ent_sl, ent_en, init_en, hX, hF, kill_sl, kill_en], by simp [put_sl, put_en, put_none, init_sl, fresh_sl, fresh_en, ent_sl, ent_en, init_en, hX, hF, kill_sl, kill_en]⟩ _
  rintro u σ ⟨e1, e4, m256a, m256b, m256c, m256d, m256e, e5, m320a, m320b, m320c, m320d, m320e, e6⟩
  simp only [vmA, Nat.reduceEqDiff, reduceIte, Nat.reduceAdd, Nat.reduceBEq, reduceCtorEq, Nat.reduceLT, Int.reduceLE, Int.reduceLT, Int.reduceEq, Nat.reduceMul, Nat.reduceLeDiff, e1, e4, m256a, m256b, m256c, m256d, m256e, e5, m320a, m320b, m320c, m320d, m320e, e6]
  refine WT_loop (fun (zz : Nat × Hs) σ => (zz.1 ≤ ms.length ∧ houseP zz.2) ∧ σ.sl 6 = .int .i64 zz.1 ∧ σ.sl 1 = .fro none c (ms.map mA) ∧ σ.sl 4 = .ptr 256 1 0 0 ∧ (σ.en 256).live = true ∧ (σ.en 256).gen = 1 ∧ (σ.en 256).frz = false ∧ (σ.en 256).sz = 3 ∧ (σ.en 256).elems = [.agg [.fro none true [], .int .i64 0, .fro none true []]] ∧ σ.sl 5 = .ptr 320 1 0 0 ∧ (σ.en 320).live = true ∧ (σ.en 320).gen = 1 ∧ (σ.en 320).frz = false ∧ (σ.en 320).sz = 3 ∧ (σ.en 320).elems = [hI (decide (zz.1 < ms.length)) zz.2]) (fun zz => ms.length - zz.1) ((0, h)) ⟨⟨Nat.zero_le _, hp⟩, by simp [put_sl, put_en, put_none, init_sl, fresh_sl, fresh_en, ent_sl, ent_en, init_en, e1, e4, m256a, m256b, m256c, m256d, m256e, e5, m320a, m320b, m320c, m320d, m320e, e6], by simp [put_sl, put_en, put_none, init_sl, fresh_sl, fresh_en, ent_sl, ent_en, init_en, e1, e4, m256a, m256b, m256c, m256d, m256e, e5, m320a, m320b, m320c, m320d, m320e, e6], by simp [put_sl, put_en, put_none, init_sl, fresh_sl, fresh_en, ent_sl, ent_en, init_en, e1, e4, m256a, m256b, m256c, m256d, m256e, e5, m320a, m320b, m320c, m320d, m320e, e6], by simp [put_sl, put_en, put_none, init_sl, fresh_sl, fresh_en, ent_sl, ent_en, init_en, e1, e4, m256a, m256b, m256c, m256d, m256e, e5, m320a, m320b, m320c, m320d, m320e, e6], by simp [put_sl, put_en, put_none, init_sl, fresh_sl, fresh_en, ent_sl, ent_en, init_en, e1, e4, m256a, m256b, m256c, m256d, m256e, e5, m320a, m320b, m320c, m320d, m320e, e6], by simp [put_sl, put_en, put_none, init_sl, fresh_sl, fresh_en, ent_sl, ent_en, init_en, e1, e4, m256a, m256b, m256c, m256d, m256e, e5, m320a, m320b, m320c, m320d, m320e, e6], by simp [put_sl, put_en, put_none, init_sl, fresh_sl, fresh_en, ent_sl, ent_en, init_en, e1, e4, m256a, m256b, m256c, m256d, m256e, e5, m320a, m320b, m320c, m320d, m320e, e6], by simp [put_sl, put_en, put_none, init_sl, fresh_sl, fresh_en, ent_sl, ent_en, init_en, e1, e4, m256a, m256b, m256c, m256d, m256e, e5, m320a, m320b, m320c, m320d, m320e, e6], by simp [put_sl, put_en, put_none, init_sl, fresh_sl, fresh_en, ent_sl, ent_en, init_en, e1, e4, m256a, m256b, m256c, m256d, m256e, e5, m320a, m320b, m320c, m320d, m320e, e6], by simp [put_sl, put_en, put_none, init_sl, fresh_sl, fresh_en, ent_sl, ent_en, init_en, e1, e4, m256a, m256b, m256c, m256d, m256e, e5, m320a, m320b, m320c, m320d, m320e, e6], by simp [put_sl, put_en, put_none, init_sl, fresh_sl, fresh_en, ent_sl, ent_en, init_en, e1, e4, m256a, m256b, m256c, m256d, m256e, e5, m320a, m320b, m320c, m320d, m320e, e6], by simp [put_sl, put_en, put_none, init_sl, fresh_sl, fresh_en, ent_sl, ent_en, init_en, e1, e4, m256a, m256b, m256c, m256d, m256e, e5, m320a, m320b, m320c, m320d, m320e, e6], by simp [put_sl, put_en, put_none, init_sl, fresh_sl, fresh_en, ent_sl, ent_en, init_en, e1, e4, m256a, m256b, m256c, m256d, m256e, e5, m320a, m320b, m320c, m320d, m320e, e6], by simp [put_sl, put_en, put_none, init_sl, fresh_sl, fresh_en, ent_sl, ent_en, init_en, e1, e4, m256a, m256b, m256c, m256d, m256e, e5, m320a, m320b, m320c, m320d, m320e, e6]⟩ ?_
  clear e1 e4 m256a m256b m256c m256d m256e e5 m320a m320b m320c m320d m320e e6
  rintro ⟨i, h'⟩ σ ⟨hi, e6, e1, e4, m256a, m256b, m256c, m256d, m256e, e5, m320a, m320b, m320c, m320d, m320e⟩
  try dsimp only at e6 e1 e4 m256a m256b m256c m256d m256e e5 m320a m320b m320c m320d m320e hi
  obtain ⟨hi, hp'⟩ := hi
  by_cases hlt : i < ms.length
  · have hX : hI (decide (i < ms.length)) h' = hA h' := by simp [hI, hlt]
    have hmi : ms[i]! ∈ ms := by rw [getElem!_pos ms i hlt]; exact List.getElem_mem _
    have hmm := hm _ hmi
    simp only [vmA, Nat.reduceEqDiff, reduceIte, Nat.reduceAdd, Nat.reduceBEq, reduceCtorEq, Nat.reduceLT, Int.reduceLE, Int.reduceLT, Int.reduceEq, Nat.reduceMul, Nat.reduceLeDiff, e6, e1, e4, m256a, m256b, m256c, m256d, m256e, e5, m320a, m320b, m320c, m320d, m320e, hX, hA, List.length_map, Option.bind_none]
    refine ⟨fun _ => ⟨by omega, ?_⟩, fun hn => absurd (by omega) hn⟩
    simp only [vmA, Nat.reduceEqDiff, reduceIte, Nat.reduceAdd, Nat.reduceBEq, reduceCtorEq, Nat.reduceLT, Int.reduceLE, Int.reduceLT, Int.reduceEq, Nat.reduceMul, Nat.reduceLeDiff, e6, e1, e4, m256a, m256b, m256c, m256d, m256e, e5, m320a, m320b, m320c, m320d, m320e, hX, hA, mA, List.length_map, Option.bind_none]
    refine ⟨hlt, ⟨by omega, hlt⟩, ?_⟩
    by_cases hlast : i + 1 < ms.length
    · refine callR (f71A h' ms[i]! hp' hmm.1 hmm.2) ?_
      rintro _ _ ⟨h2, n, rfl, hp2, rfl⟩
      have hX2 : hI (decide (i + 1 < ms.length)) h2 = hA h2 := by simp [hI, hlast]
      cases hb : hasFro (AV.tup [hA h2, .int .i64 n])
      · simp only [behind_nf hb]
        simp only [vmA, Nat.reduceEqDiff, reduceIte, Nat.reduceAdd, Nat.reduceBEq, reduceCtorEq, Nat.reduceLT, Int.reduceLE, Int.reduceLT, Int.reduceEq, Nat.reduceMul, Nat.reduceLeDiff, e6, e1, e4, m256a, m256b, m256c, m256d, m256e, e5, m320a, m320b, m320c, m320d, m320e, hX, hA, mA, List.length_map, Option.bind_none]
        rw [wr (by omega)]
        exact ⟨(i + 1, h2), ⟨⟨by dsimp only; omega, hp2⟩, rfl, congrArg (fun x => [x]) hX2.symm⟩, by dsimp only; omega⟩
      · simp only [behind_yes hb]
        simp only [vmA, Nat.reduceEqDiff, reduceIte, Nat.reduceAdd, Nat.reduceBEq, reduceCtorEq, Nat.reduceLT, Int.reduceLE, Int.reduceLT, Int.reduceEq, Nat.reduceMul, Nat.reduceLeDiff, e6, e1, e4, m256a, m256b, m256c, m256d, m256e, e5, m320a, m320b, m320c, m320d, m320e, hX, hA, mA, List.length_map, Option.bind_none, freezeL, lentOf]
        rw [wr (by omega)]
        exact ⟨(i + 1, h2), ⟨⟨by dsimp only; omega, hp2⟩, rfl, congrArg (fun x => [x]) hX2.symm⟩, by dsimp only; omega⟩
    · refine callR (f71F h' ms[i]! hp' hmm.1 hmm.2) ?_
      rintro _ _ ⟨h2, n, rfl, hp2, rfl⟩
      have hX2 : hI (decide (i + 1 < ms.length)) h2 = hF h2 := by simp [hI, hlast]
      cases hb : hasFro (AV.tup [hF h2, .int .i64 n])
      · simp only [behind_nf hb]
        simp only [vmA, Nat.reduceEqDiff, reduceIte, Nat.reduceAdd, Nat.reduceBEq, reduceCtorEq, Nat.reduceLT, Int.reduceLE, Int.reduceLT, Int.reduceEq, Nat.reduceMul, Nat.reduceLeDiff, e6, e1, e4, m256a, m256b, m256c, m256d, m256e, e5, m320a, m320b, m320c, m320d, m320e, hX, hA, hF, mA, List.length_map, Option.bind_none]
        rw [wr (by omega)]
        exact ⟨(i + 1, h2), ⟨⟨by dsimp only; omega, hp2⟩, rfl, congrArg (fun x => [x]) hX2.symm⟩, by dsimp only; omega⟩
      · simp only [behind_yes hb]
        simp only [vmA, Nat.reduceEqDiff, reduceIte, Nat.reduceAdd, Nat.reduceBEq, reduceCtorEq, Nat.reduceLT, Int.reduceLE, Int.reduceLT, Int.reduceEq, Nat.reduceMul, Nat.reduceLeDiff, e6, e1, e4, m256a, m256b, m256c, m256d, m256e, e5, m320a, m320b, m320c, m320d, m320e, hX, hA, hF, mA, List.length_map, Option.bind_none, freezeL, lentOf]
        rw [wr (by omega)]
        exact ⟨(i + 1, h2), ⟨⟨by dsimp only; omega, hp2⟩, rfl, congrArg (fun x => [x]) hX2.symm⟩, by dsimp only; omega⟩
  · have hX : hI (decide (i < ms.length)) h' = hF h' := by simp [hI, hlt]
    simp only [vmA, Nat.reduceEqDiff, reduceIte, Nat.reduceAdd, Nat.reduceBEq, reduceCtorEq, Nat.reduceLT, Int.reduceLE, Int.reduceLT, Int.reduceEq, Nat.reduceMul, Nat.reduceLeDiff, e6, e1, e4, m256a, m256b, m256c, m256d, m256e, e5, m320a, m320b, m320c, m320d, m320e, hX, hF, List.length_map, Option.bind_none]
    refine ⟨fun hn => absurd hn (by omega), fun _ => ?_⟩
    (refine hQ _ ?_; simp only [vmA, Nat.reduceEqDiff, reduceIte, Nat.reduceAdd, Nat.reduceBEq, reduceCtorEq, Nat.reduceLT, Int.reduceLE, Int.reduceLT, Int.reduceEq, Nat.reduceMul, Nat.reduceLeDiff, Try.f42, retG, resL, St.closeVs, St.closeV, e6, e1, e4, m256a, m256b, m256c, m256d, m256e, e5, m320a, m320b, m320c, m320d, m320e, hX, hF, Option.bind_none])
    exact ⟨h', rfl, hp'⟩
