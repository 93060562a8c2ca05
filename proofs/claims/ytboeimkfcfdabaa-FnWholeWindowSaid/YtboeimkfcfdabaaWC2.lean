/- WALK of functions of the seat, or plain laws for it: each theorem f<k> says what function k returns, for every world and all arguments that stand for the values named. Conditions: none but those ahead of each theorem. -/
import Derived.Test.YtboeimkfcfdabaaWC2a
open Go Go.Vm Go.Proofs
set_option maxRecDepth 100000
set_option maxHeartbeats 8000000
set_option linter.unusedSimpArgs false
set_option linter.unusedVariables false
theorem leaves_rT (ys : List (Nat × List Val)) : ∀ z ∈ ys.map rT, (leaves z).length = 1 := fun z hz => by
  obtain ⟨y, _, rfl⟩ := List.mem_map.1 hz
  rfl
theorem insL (ys : List (Nat × List Val)) (k : Nat) (x : Nat × List Val) : (ys.take k).map rT ++ [AV.own 3 (x.2.map vA)] ++ (ys.drop k).map rT = (ins ys k x).map rT := by simp [ins, rT, rO]
theorem f10 (ws : List (List Val)) (c : Bool) (hl : ws.length ≤ 1048576) (hr : ∀ w ∈ ws, w.length ≤ 1048576) (hs : ∀ r ∈ ws, okR r) : FxR 10 [.fro none c (ws.map rA)] fun r l => (∃ ys, WinR ws ys ∧ r = .own 1 (ys.map rT)) ∧ l = .und := by
  refine fn_ofX ⟨false, [56, 68], [(14, [0, 1, 2, 3, 4, 8, 9, 10], [5, 6, 7, 11, 12])]⟩ Try.func10 (by kernel_rfl) rfl (by kernel_rfl) (by kernel_rfl) (Nat.le_of_ble_eq_true rfl) rfl fun Q hQ => ?_
  simp only [tr_seq, tr_block, tr_loop, tr_cond, tr_skip, tr_exit, tr_ret, tr_reg]
  rw [tr_calm (by kernel_rfl)]
  (rw [tr_perm [0, 1, 2, 3, 4, 8, 9, 10] [5, 6, 7, 11, 12] (by kernel_rfl)]; simp only [pickL, List.getElem?_toArray, List.getElem?_cons_zero, List.getElem?_cons_succ])
  simp only [vmA, Nat.reduceEqDiff, reduceIte, Nat.reduceAdd, Nat.reduceBEq, reduceCtorEq, Nat.reduceLT, Int.reduceLE, Int.reduceLT, Int.reduceEq, Nat.reduceMul, Nat.reduceLeDiff, List.length_map]
  refine WT_loop (fun (i : Nat) σ => (i ≤ ws.length ∧ (i = 0 ∨ ws.length ≤ 50) ∧ ∀ r ∈ ws.take i, winP r) ∧ σ.sl 0 = .fro none c (ws.map rA) ∧ σ.sl 4 = .int .i64 i ∧ σ.sl 3 = .hd 512 1 0 0 true ∧ (σ.en 512).live = true ∧ (σ.en 512).gen = 1 ∧ (σ.en 512).frz = false ∧ (σ.en 512).sz = 1 ∧ (σ.en 512).elems = [] ∧ (σ.en 192).live = false) (fun i => ws.length - i) 0 ⟨⟨by omega, .inl rfl, by simp⟩, by simp [put_sl, put_en, put_none, init_sl, fresh_sl, fresh_en, ent_sl, ent_en, init_en], by simp [put_sl, put_en, put_none, init_sl, fresh_sl, fresh_en, ent_sl, ent_en, init_en], by simp [put_sl, put_en, put_none, init_sl, fresh_sl, fresh_en, ent_sl, ent_en, init_en], by simp [put_sl, put_en, put_none, init_sl, fresh_sl, fresh_en, ent_sl, ent_en, init_en], by simp [put_sl, put_en, put_none, init_sl, fresh_sl, fresh_en, ent_sl, ent_en, init_en], by simp [put_sl, put_en, put_none, init_sl, fresh_sl, fresh_en, ent_sl, ent_en, init_en], by simp [put_sl, put_en, put_none, init_sl, fresh_sl, fresh_en, ent_sl, ent_en, init_en], by simp [put_sl, put_en, put_none, init_sl, fresh_sl, fresh_en, ent_sl, ent_en, init_en], by simp [put_sl, put_en, put_none, init_sl, fresh_sl, fresh_en, ent_sl, ent_en, init_en]⟩ ?_
  rintro i σ ⟨⟨hi, h50, hall⟩, e0, e4, e3, l1, l2, l3, l4, l5, m1⟩
  simp only [vmA, Nat.reduceEqDiff, reduceIte, Nat.reduceAdd, Nat.reduceBEq, reduceCtorEq, Nat.reduceLT, Int.reduceLE, Int.reduceLT, Int.reduceEq, Nat.reduceMul, Nat.reduceLeDiff, e0, e4, e3, l1, l2, l3, l4, l5, m1, List.length_map, rA]
  refine ⟨fun hlt => ?_, fun hge => ?_⟩
  · refine ⟨hlt, by omega, callD (f26 ws[i]! false (hs _ (by rw [getElem!_pos ws i (by omega)]; exact List.getElem_mem _))) ?_⟩
    have hm : ws[i]! ∈ ws := by rw [getElem!_pos ws i (by omega)]; exact List.getElem_mem _
    simp only [vmA, Nat.reduceEqDiff, reduceIte, Nat.reduceAdd, Nat.reduceBEq, reduceCtorEq, Nat.reduceLT, Int.reduceLE, Int.reduceLT, Int.reduceEq, Nat.reduceMul, Nat.reduceLeDiff, e0, e4, e3, l1, l2, l3, l4, l5, m1, List.length_map, rA]
    refine ⟨fun hw => ?_, fun hw => ⟨fun h => ?_, fun h => ?_⟩⟩
    · (refine hQ _ ?_; simp only [vmA, Nat.reduceEqDiff, reduceIte, Nat.reduceAdd, Nat.reduceBEq, reduceCtorEq, Nat.reduceLT, Int.reduceLE, Int.reduceLT, Int.reduceEq, Nat.reduceMul, Nat.reduceLeDiff, Try.f10, retG, resL, St.closeVs, St.closeV, List.length_nil])
      exact ⟨[], .inr ⟨fun h2 => hw (h2.2 _ hm), rfl⟩, rfl⟩
    · (refine hQ _ ?_; simp only [vmA, Nat.reduceEqDiff, reduceIte, Nat.reduceAdd, Nat.reduceBEq, reduceCtorEq, Nat.reduceLT, Int.reduceLE, Int.reduceLT, Int.reduceEq, Nat.reduceMul, Nat.reduceLeDiff, Try.f10, retG, resL, St.closeVs, St.closeV, List.length_nil])
      exact ⟨[], .inr ⟨fun h2 => by have := h2.1; omega, rfl⟩, rfl⟩
    · rw [wr (by omega)]
      refine ⟨i + 1, ⟨⟨by omega, .inr (by omega), fun r hrm => ?_⟩, rfl⟩, by omega⟩
      rw [take_next ws i (by omega)] at hrm
      rcases List.mem_append.1 hrm with h2 | h2
      · exact hall r h2
      · obtain rfl : r = ws[i]! := by simpa using h2
        exact hw
  obtain rfl : i = ws.length := by omega
  have hwin : winsP ws := ⟨by rcases h50 with h | h <;> omega, fun r h => hall r (by rw [List.take_length]; exact h)⟩
  have h50 := hwin.1
  clear hall hi hge
  refine WT_loopR (fun (p : Nat × Nat × List (Nat × List Val)) σ => (p.1 ≤ ws.length ∧ p.2.2.length = p.1 ∧ p.2.2.Perm ((tagL ws).take p.1) ∧ Asc zlt 0 p.1 p.2.2) ∧ σ.sl 0 = .fro none c (ws.map rA) ∧ σ.sl 5 = .int .i64 p.1 ∧ σ.sl 3 = .hd 192 p.2.1 0 p.1 false ∧ (σ.en 192).live = true ∧ (σ.en 192).gen = p.2.1 ∧ (σ.en 192).frz = false ∧ (σ.en 192).sz = 1 ∧ (σ.en 192).elems = p.2.2.map rT) (fun p => ws.length - p.1) 3 ?_ ?_
  · simp only [vmA, Nat.reduceEqDiff, reduceIte, Nat.reduceAdd, Nat.reduceBEq, reduceCtorEq, Nat.reduceLT, Int.reduceLE, Int.reduceLT, Int.reduceEq, Nat.reduceMul, Nat.reduceLeDiff, e0, e4, e3, l1, l2, l3, l4, l5, m1, reown]
    exact ⟨(0, (σ.en 192).gen + 1, []), ⟨Nat.zero_le _, rfl, by simp, fun p q h1 h2 h3 => absurd h3 (by dsimp only; omega)⟩, rfl, rfl, rfl, rfl⟩
  clear e0 e3 e4 l1 l2 l3 l4 l5 m1
  rintro ⟨i, γ, ys⟩ σ ⟨⟨hi, hyl, hp, ha⟩, e0, e5, e3, l1, l2, l3, l4, l5⟩
  dsimp only at hi hyl hp ha e0 e5 e3 l1 l2 l3 l4 l5
  simp only [vmA, Nat.reduceEqDiff, reduceIte, Nat.reduceAdd, Nat.reduceBEq, reduceCtorEq, Nat.reduceLT, Int.reduceLE, Int.reduceLT, Int.reduceEq, Nat.reduceMul, Nat.reduceLeDiff, e0, e5, e3, l1, l2, l3, l4, l5, List.length_map, rA, hyl]
  refine ⟨fun hlt => ?_, fun hge => ?_⟩
  · have hi' : i < ws.length := by omega
    have hmi : ws[i]! ∈ ws := by rw [getElem!_pos ws i hi']; exact List.getElem_mem _
    have hmy : ∀ j, j < i → ys[j]!.2 ∈ ws := fun j hj => by
      have : ys[j]! ∈ ys := by rw [getElem!_pos ys j (by omega)]; exact List.getElem_mem _
      exact tagL_mem (List.mem_of_mem_take (hp.mem_iff.1 this))
    refine WT_loop (fun (k : Nat) σ => (k ≤ i ∧ ∀ j, k ≤ j → j < i → 0 < rowCmp ys[j]!.2 ws[i]!) ∧ σ.sl 6 = .int .i64 k ∧ σ.sl 0 = .fro none c (ws.map rA) ∧ σ.sl 5 = .int .i64 i ∧ σ.sl 3 = .hd 192 γ 0 i false ∧ (σ.en 192).live = true ∧ (σ.en 192).gen = γ ∧ (σ.en 192).frz = false ∧ (σ.en 192).sz = 1 ∧ (σ.en 192).elems = ys.map rT) (fun k => k) i ⟨⟨Nat.le_refl _, fun j h1 h2 => absurd h1 (by omega)⟩, by simp [put_sl, put_en, put_none, init_sl, fresh_sl, fresh_en, ent_sl, ent_en, init_en], by simp [put_sl, put_en, put_none, init_sl, fresh_sl, fresh_en, ent_sl, ent_en, init_en, e0], by simp [put_sl, put_en, put_none, init_sl, fresh_sl, fresh_en, ent_sl, ent_en, init_en, e5], by simp [put_sl, put_en, put_none, init_sl, fresh_sl, fresh_en, ent_sl, ent_en, init_en, e3], by simp [put_sl, put_en, put_none, init_sl, fresh_sl, fresh_en, ent_sl, ent_en, init_en, l1], by simp [put_sl, put_en, put_none, init_sl, fresh_sl, fresh_en, ent_sl, ent_en, init_en, l2], by simp [put_sl, put_en, put_none, init_sl, fresh_sl, fresh_en, ent_sl, ent_en, init_en, l3], by simp [put_sl, put_en, put_none, init_sl, fresh_sl, fresh_en, ent_sl, ent_en, init_en, l4], by simp [put_sl, put_en, put_none, init_sl, fresh_sl, fresh_en, ent_sl, ent_en, init_en, l5]⟩ ?_
    clear e0 e5 e3 l1 l2 l3 l4 l5
    rintro k σ ⟨⟨hk, hgt⟩, e6, e0, e5, e3, l1, l2, l3, l4, l5⟩
    by_cases hk0 : 0 < k
    · have hw1 : IntKind.i64.wrap ((k : Int) - 1) = ((k - 1 : Nat) : Int) := by rw [wr (by omega)]; omega
      have hg : ((0 : Int) < k) = True := eq_true (by omega)
      have hg' : (0 < k) = True := eq_true hk0
      simp only [vmA, Nat.reduceEqDiff, reduceIte, Nat.reduceAdd, Nat.reduceBEq, reduceCtorEq, Nat.reduceLT, Int.reduceLE, Int.reduceLT, Int.reduceEq, Nat.reduceMul, Nat.reduceLeDiff, e6, e0, e5, e3, l1, l2, l3, l4, l5, List.length_map, rA, rT, rO, hyl, hw1, hg, Int.toNat_natCast]
      refine ⟨by omega, by omega, by omega, by omega, callD (f27 ys[k - 1]!.2 ws[i]! false false (hwin.2 _ (hmy _ (by omega))) (hwin.2 _ hmi) (hs _ (hmy _ (by omega))) (hs _ hmi)) ?_⟩
      simp only [vmA, Nat.reduceEqDiff, reduceIte, Nat.reduceAdd, Nat.reduceBEq, reduceCtorEq, Nat.reduceLT, Int.reduceLE, Int.reduceLT, Int.reduceEq, Nat.reduceMul, Nat.reduceLeDiff, e6, e0, e5, e3, l1, l2, l3, l4, l5, List.length_map, rA, rT, rO, hyl, hw1, hg, Int.toNat_natCast]
      refine ⟨fun hpos => ?_, fun hneg => ?_⟩
      · exact ⟨k - 1, ⟨⟨by omega, fun j h1 h2 => by
          by_cases hj : j = k - 1
          · rw [hj]; exact hpos
          · exact hgt j (by omega) h2⟩, rfl⟩, by omega⟩
      · obtain ⟨q1, q2⟩ := ins_ok hi' hyl hp ha hk (.inr (by omega)) hgt
        have t1 : List.take k (ys.map rT) = (ys.take k).map rT := List.map_take.symm
        have t2 : List.drop k (ys.map rT) = (ys.drop k).map rT := List.map_drop.symm
        have n1 : (ys.take k).length = k := by simp; omega
        have n2 : (ys.drop k).length = i - k := by simp; omega
        have w1 : ((ys.take k).map rT = []) = False := eq_false fun h => by have := congrArg List.length h; rw [List.length_map, n1] at this; simp at this; omega
        have w2 : (∀ z ∈ (ys.take k).map rT, (leaves z).length = 1) = True := eq_true (leaves_rT _)
        have t3 : (((ys.take k).map rT).map holeE ++ (ys.drop k).map rT).length = i := by simp [n1, n2]; omega
        have t4 : List.drop k (((ys.take k).map rT).map holeE ++ (ys.drop k).map rT) = (ys.drop k).map rT := List.drop_left' (by rw [List.length_map, List.length_map, n1])
        have t5 : List.take (i - k) ((ys.drop k).map rT) = (ys.drop k).map rT := List.take_of_length_le (by simp; omega)
        have t6 : (k + (i - k) ≤ i) = True := eq_true (by omega)
        simp only [vmA, Nat.reduceEqDiff, reduceIte, Nat.reduceAdd, Nat.reduceBEq, reduceCtorEq, Nat.reduceLT, Int.reduceLE, Int.reduceLT, Int.reduceEq, Nat.reduceMul, Nat.reduceLeDiff, e6, e0, e5, e3, l1, l2, l3, l4, l5, List.length_map, rA, rO, hyl, hw1, hg, hg', Int.toNat_natCast, Int.toNat_zero, Nat.sub_zero, Nat.zero_add, t1, t2, n1, n2, w1, w2, t3, t4, t5, t6]
        refine ⟨by omega, by omega, by omega, by omega, by omega, by omega, callD (f28 ws[i]! false (hr _ hmi)) ?_⟩
        by_cases hki : k < i
        · have g1 : (0 < i - k) = True := eq_true (by omega)
          have g2 : ((ys.drop k).map rT = []) = False := eq_false fun h => by have := congrArg List.length h; rw [List.length_map, n2] at this; simp at this; omega
          have g3 : (∀ z ∈ (ys.drop k).map rT, (leaves z).length = 1) = True := eq_true (leaves_rT _)
          have g4 : (((ys.take k).map rT) ++ [AV.own 3 (ws[i]!.map vA)]).length = k + 1 := by rw [List.length_append, List.length_map, n1]; rfl
          simp only [vmA, Nat.reduceEqDiff, reduceIte, Nat.reduceAdd, Nat.reduceBEq, reduceCtorEq, Nat.reduceLT, Int.reduceLE, Int.reduceLT, Int.reduceEq, Nat.reduceMul, Nat.reduceLeDiff, e6, e0, e5, e3, l1, l2, l3, l4, l5, List.length_map, rA, rO, hyl, hw1, hg, hg', Int.toNat_natCast, Int.toNat_zero, Nat.sub_zero, Nat.zero_add, t1, t2, n1, n2, w1, w2, t3, t4, t5, t6, g1, g2, g3, g4]
          rw [insL ys k (i, ws[i]!), wr (by omega)]
          have hil := ins_length ys k (i, ws[i]!)
          rw [List.take_of_length_le (by rw [List.length_map]; omega), List.length_map]
          exact ⟨⟨by omega, by omega⟩, ⟨by omega, by omega⟩, by omega, (i + 1, γ + 1, ins ys k (i, ws[i]!)), ⟨⟨by dsimp only; omega, by dsimp only; omega, q1, q2⟩, leafJ (by dsimp only; omega), by dsimp only; rw [hil, hyl], rfl, rfl⟩, by dsimp only; omega⟩
        · have g1 : (0 < i - k) = False := eq_false (by omega)
          obtain rfl : k = i := by omega
          have g2 : ys.drop k = [] := List.drop_of_length_le (by omega)
          have g4 : (((ys.take k).map rT) ++ [AV.own 3 (ws[k]!.map vA)]).length = k + 1 := by rw [List.length_append, List.length_map, n1]; rfl
          simp only [vmA, Nat.reduceEqDiff, reduceIte, Nat.reduceAdd, Nat.reduceBEq, reduceCtorEq, Nat.reduceLT, Int.reduceLE, Int.reduceLT, Int.reduceEq, Nat.reduceMul, Nat.reduceLeDiff, e6, e0, e5, e3, l1, l2, l3, l4, l5, List.length_map, rA, rO, hyl, hw1, hg, hg', Int.toNat_natCast, Int.toNat_zero, Nat.sub_zero, Nat.zero_add, t1, t2, n1, n2, w1, w2, t3, t4, t5, t6, g1, g2, g4, Nat.sub_self, Nat.lt_irrefl, Nat.add_zero]
          have hil := ins_length ys k (k, ws[k]!)
          have hin := insL ys k (k, ws[k]!)
          rw [g2, List.map_nil, List.append_nil] at hin
          rw [hin, wr (by omega)]
          rw [List.take_of_length_le (by rw [List.length_map]; omega), List.length_map]
          exact ⟨⟨by omega, by omega⟩, ⟨by omega, by omega⟩, (k + 1, γ + 1, ins ys k (k, ws[k]!)), ⟨⟨by dsimp only; omega, by dsimp only; omega, q1, q2⟩, leafJ (by dsimp only; omega), by dsimp only; rw [hil, hyl], rfl, rfl⟩, by dsimp only; omega⟩
    · obtain rfl : k = 0 := by omega
      obtain ⟨q1, q2⟩ := ins_ok hi' hyl hp ha hk (.inl rfl) hgt
      simp only [vmA, Nat.reduceEqDiff, reduceIte, Nat.reduceAdd, Nat.reduceBEq, reduceCtorEq, Nat.reduceLT, Int.reduceLE, Int.reduceLT, Int.reduceEq, Nat.reduceMul, Nat.reduceLeDiff, e6, e0, e5, e3, l1, l2, l3, l4, l5, List.length_map, rA, rO, hyl, Int.natCast_zero, Int.toNat_zero, Nat.sub_zero, Nat.zero_add, Nat.lt_irrefl]
      refine ⟨by omega, by omega, by omega, by omega, callD (f28 ws[i]! false (hr _ hmi)) ?_⟩
      by_cases hki : 0 < i
      · have g1 : (0 < i) = True := eq_true (by omega)
        have n2 : (ys.drop 0).length = i := by simp [hyl]
        have g2 : (ys.map rT = []) = False := eq_false fun h => by have := congrArg List.length h; rw [List.length_map, hyl] at this; simp at this; omega
        have g3 : (∀ z ∈ ys.map rT, (leaves z).length = 1) = True := eq_true (leaves_rT _)
        have t5 : List.take i (ys.map rT) = ys.map rT := List.take_of_length_le (by simp [hyl])
        simp only [vmA, Nat.reduceEqDiff, reduceIte, Nat.reduceAdd, Nat.reduceBEq, reduceCtorEq, Nat.reduceLT, Int.reduceLE, Int.reduceLT, Int.reduceEq, Nat.reduceMul, Nat.reduceLeDiff, e6, e0, e5, e3, l1, l2, l3, l4, l5, List.length_map, rA, rO, hyl, Int.natCast_zero, Int.toNat_zero, Nat.sub_zero, Nat.zero_add, Nat.lt_irrefl, g1, g2, g3, t5]
        have hil := ins_length ys 0 (i, ws[i]!)
        have hin : AV.own 3 (ws[i]!.map vA) :: ys.map rT = (ins ys 0 (i, ws[i]!)).map rT := rfl
        rw [hin, wr (by omega)]
        rw [List.take_of_length_le (by rw [List.length_map]; omega), List.length_map]
        exact ⟨⟨by omega, by omega⟩, by omega, (i + 1, γ + 1, ins ys 0 (i, ws[i]!)), ⟨⟨by dsimp only; omega, by dsimp only; omega, q1, q2⟩, leafJ (by dsimp only; omega), by dsimp only; rw [hil, hyl], rfl, rfl⟩, by dsimp only; omega⟩
      · obtain rfl : i = 0 := by omega
        obtain rfl := List.eq_nil_of_length_eq_zero hyl
        simp only [vmA, Nat.reduceEqDiff, reduceIte, Nat.reduceAdd, Nat.reduceBEq, reduceCtorEq, Nat.reduceLT, Int.reduceLE, Int.reduceLT, Int.reduceEq, Nat.reduceMul, Nat.reduceLeDiff, e6, e0, e5, e3, l1, l2, l3, l4, l5, List.length_map, rA, rO, Int.natCast_zero, Int.toNat_zero, Nat.sub_zero, Nat.zero_add, Nat.lt_irrefl]
        rw [wr (by omega)]
        exact ⟨(1, γ + 1, ins [] 0 (0, ws[0]!)), ⟨⟨by dsimp only; omega, rfl, q1, q2⟩, leafJ (by dsimp only; omega), rfl, rfl, rfl⟩, by dsimp only; omega⟩

  · (refine hQ _ ?_; simp only [vmA, Nat.reduceEqDiff, reduceIte, Nat.reduceAdd, Nat.reduceBEq, reduceCtorEq, Nat.reduceLT, Int.reduceLE, Int.reduceLT, Int.reduceEq, Nat.reduceMul, Nat.reduceLeDiff, Try.f10, retG, resL, St.closeVs, St.closeV, e3, l1, l2, l3, l4, l5])
    refine ⟨by omega, ys, .inl ⟨hwin, ?_, ?_⟩, ?_⟩
    · obtain rfl : i = ws.length := by omega
      rwa [List.take_of_length_le (by rw [tagL_length]; omega)] at hp
    · obtain rfl : i = ws.length := by omega
      exact ha
    · rw [List.take_of_length_le (by simp; omega)]
