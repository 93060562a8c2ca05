/- WALK of functions of the seat, or plain laws for it: each theorem f<k> says what function k returns, for every world and all arguments that stand for the values named. Conditions: none but those ahead of each theorem. -/
import Derived.Test.YtboeimkfcfdabaaWK13
import Derived.Test.YtboeimkfcfdabaaWK11
import Derived.Test.YtboeimkfcfdabaaWA3
open Go Go.Vm Go.Proofs
set_option maxRecDepth 100000
set_option maxHeartbeats 8000000
set_option linter.unusedSimpArgs false
set_option linter.unusedVariables false
-- TREES 8:7
/-- A group as a row. -/
def gpRow (t : Int) (g : Gp) : List Val := g.key ++ [knTell g.kn t]
def gI (cs : List Col) (rs : List (List Val)) (bl : List Int) (o t : Int) : AV := if toldP cs bl o t ∧ rs.length ≤ 100 ∧ allP cs rs then .own 1 (((gAll rs bl o).map (gpRow t)).map rO) else .fro none true []
theorem f8 (cs : List Col) (rs : List (List Val)) (bl : List Int) (o t : Int) (c d e : Bool) (hc : cs.length ≤ 1048576) (hr : rs.length ≤ 1048576) (hb : bl.length ≤ 1048576) (hs : ∀ r ∈ rs, okR r) : Fx 8 [.fro none c (cs.map cA), .fro none d (rs.map rA), .fro none e (bl.map iA), .int .i64 o, .int .i64 t] (gI cs rs bl o t) := by
  refine fn_ofX ⟨true, [], [(7, [], [1000, 0, 1, 2, 3, 4, 5])]⟩ Try.func8 (by kernel_rfl) rfl (by kernel_rfl) (by kernel_rfl) (Nat.le_of_ble_eq_true rfl) rfl fun Q hQ => ?_
  simp only [tr_seq, tr_block, tr_loop, tr_cond, tr_skip, tr_exit, tr_ret, tr_reg]
  rw [tr_tree 7 [0, 1, 2, 3, 4, 5] (.both 6 (.both 7 (.both 8 (.both 9 (.both 10 (.both 11 .leaf .leaf) .leaf) .leaf) .leaf) .leaf) .leaf) (by kernel_rfl)]
  simp only [codeA_nil, codeA_look, codeA_hard, codeA_fin, ordC_leaf, ordC_one, ordC_both, pickL, List.getElem?_toArray, List.getElem?_cons_zero, List.getElem?_cons_succ]
  simp only [vmA, Nat.reduceEqDiff, reduceIte, Nat.reduceAdd, Nat.reduceBEq, reduceCtorEq, Nat.reduceLT, Int.reduceLE, Int.reduceLT, Int.reduceEq, Nat.reduceMul, Nat.reduceLeDiff, List.length_map, Option.bind_none]
  refine callD (f20 cs c bl e o t hc hb) ?_
  simp only [vmA, Nat.reduceEqDiff, reduceIte, Nat.reduceAdd, Nat.reduceBEq, reduceCtorEq, Nat.reduceLT, Int.reduceLE, Int.reduceLT, Int.reduceEq, Nat.reduceMul, Nat.reduceLeDiff, List.length_map, Option.bind_none]
  refine ⟨fun g1 => ?_, fun g1 => ⟨fun g2 => ?_, fun g2 => callD (f21 cs c rs d (by omega) (by omega) hs) ?_⟩⟩
  · have hZ : gI cs rs bl o t = .fro none true [] := if_neg fun h => g1 h.1
    (refine hQ _ ?_; simp only [vmA, Nat.reduceEqDiff, reduceIte, Nat.reduceAdd, Nat.reduceBEq, reduceCtorEq, Nat.reduceLT, Int.reduceLE, Int.reduceLT, Int.reduceEq, Nat.reduceMul, Nat.reduceLeDiff, Try.f8, retG, resL, St.closeVs, St.closeV, Option.bind_none, List.take_nil, hZ])
  · have hZ : gI cs rs bl o t = .fro none true [] := if_neg fun h => by have := h.2.1; omega
    (refine hQ _ ?_; simp only [vmA, Nat.reduceEqDiff, reduceIte, Nat.reduceAdd, Nat.reduceBEq, reduceCtorEq, Nat.reduceLT, Int.reduceLE, Int.reduceLT, Int.reduceEq, Nat.reduceMul, Nat.reduceLeDiff, Try.f8, retG, resL, St.closeVs, St.closeV, Option.bind_none, List.take_nil, hZ])
  simp only [vmA, Nat.reduceEqDiff, reduceIte, Nat.reduceAdd, Nat.reduceBEq, reduceCtorEq, Nat.reduceLT, Int.reduceLE, Int.reduceLT, Int.reduceEq, Nat.reduceMul, Nat.reduceLeDiff, List.length_map, Option.bind_none]
  refine ⟨fun g3 => ?_, fun g3 => ?_⟩
  · have hZ : gI cs rs bl o t = .fro none true [] := if_neg fun h => g3 h.2.2
    (refine hQ _ ?_; simp only [vmA, Nat.reduceEqDiff, reduceIte, Nat.reduceAdd, Nat.reduceBEq, reduceCtorEq, Nat.reduceLT, Int.reduceLE, Int.reduceLT, Int.reduceEq, Nat.reduceMul, Nat.reduceLeDiff, Try.f8, retG, resL, St.closeVs, St.closeV, Option.bind_none, List.take_nil, hZ])
  have hg := allP_grp g1 g3 hs
  refine callD (f22 rs bl o d e hr hb hg) ?_
  simp only [vmA, Nat.reduceEqDiff, reduceIte, Nat.reduceAdd, Nat.reduceBEq, reduceCtorEq, Nat.reduceLT, Int.reduceLE, Int.reduceLT, Int.reduceEq, Nat.reduceMul, Nat.reduceLeDiff, List.length_map, Option.bind_none]
  have hGl := (gAll_ok hg rs.length (Nat.le_refl _)).1
  have hGk := (gAll_ok hg rs.length (Nat.le_refl _)).2
  rw [List.take_length] at hGl hGk
  generalize hG : gAll rs bl o = G at *
  refine WT_loopN (fun (zz : Nat × Nat × List (List Val)) σ => (zz.1 ≤ G.length ∧ zz.2.2 = (G.take zz.1).map (gpRow t)) ∧ σ.sl 36 = .int .i64 zz.1 ∧ σ.sl 4 = .int .i64 t ∧ σ.sl 35 = .int .i64 G.length ∧ σ.sl 34 = .hd 2176 1 0 G.length false ∧ (σ.en 2176).live = true ∧ (σ.en 2176).gen = 1 ∧ (σ.en 2176).frz = false ∧ (σ.en 2176).sz = 9 ∧ (σ.en 2176).elems = G.map gpA ∧ σ.sl 11 = .hd 704 zz.2.1 0 (zz.2.2.length) false ∧ (σ.en 704).live = true ∧ (σ.en 704).gen = zz.2.1 ∧ (σ.en 704).frz = false ∧ (σ.en 704).sz = 1 ∧ (σ.en 704).elems = zz.2.2.map rO) (fun zz => G.length - zz.1) (0, 1, []) 11 1 (by simp [put_sl, put_en, put_none, init_sl, fresh_sl, fresh_en, ent_sl, ent_en, init_en]) (by simp [put_sl, put_en, put_none, init_sl, fresh_sl, fresh_en, ent_sl, ent_en, init_en, takeRes, takeV, takeLeaf, eid]) ?_
  rintro ⟨i, γ, M⟩ σ ⟨⟨hi, hM⟩, e36, e4, e35, e34, o1, o2, o3, o4, o5, e11, p1, p2, p3, p4, p5⟩
  dsimp only at hi hM e36 e11 p2 p5
  have hMl : M.length = i := by rw [hM]; simp; omega
  simp only [vmA, Nat.reduceEqDiff, reduceIte, Nat.reduceAdd, Nat.reduceBEq, reduceCtorEq, Nat.reduceLT, Int.reduceLE, Int.reduceLT, Int.reduceEq, Nat.reduceMul, Nat.reduceLeDiff, e36, e4, e35, e34, o1, o2, o3, o4, o5, e11, p1, p2, p3, p4, p5, rA, rO, gpA, List.length_map, Option.bind_none, reown, List.take_length, map_froize_vA, behind_nf, hasFro, hasFroL_vA, hasFroL_rO]
  refine ⟨fun hlt => ?_, fun hge => ?_⟩
  · have hok := hGk G[i]! (by rw [getElem!_pos G i (by omega)]; exact List.getElem_mem _)
    refine ⟨hlt, by omega, callD (f23 G[i]!.kn t hok.2) ?_⟩
    simp only [vmA, Nat.reduceEqDiff, reduceIte, Nat.reduceAdd, Nat.reduceBEq, reduceCtorEq, Nat.reduceLT, Int.reduceLE, Int.reduceLT, Int.reduceEq, Nat.reduceMul, Nat.reduceLeDiff, e36, e4, e35, e34, o1, o2, o3, o4, o5, e11, p1, p2, p3, p4, p5, rA, rO, gpA, vA, List.length_map, Option.bind_none, reown, List.take_length, map_froize_vA, behind_nf, hasFro, hasFroL_vA, hasFroL_rO]
    rw [wr (by omega)]
    refine ⟨.inr trivial, fun z hz => by obtain ⟨b, _, rfl⟩ := List.mem_map.1 hz; rfl, ⟨by omega, by omega⟩, by simp, ⟨by omega, by omega⟩, (i + 1, _, M ++ [gpRow t G[i]!]), ⟨⟨by dsimp only; omega, ?_⟩, rfl, ?_, rfl, ?_⟩, by dsimp only; omega⟩
    · dsimp only
      rw [take_next G i (by omega), List.map_append, hM]; rfl
    · simp
    · dsimp only
      rw [List.take_of_length_le (by simp), List.map_append]
      simp only [gpRow, rO, vA, List.map_append, List.map_cons, List.map_nil]
  · obtain rfl : i = G.length := by omega
    rw [List.take_length] at hM
    rw [map_froize_rO]
    refine callD (f24 M false (by omega) ?_) ?_
    · intro w hw
      rw [hM] at hw
      obtain ⟨g, hg2, rfl⟩ := List.mem_map.1 hw
      have := (hGk g hg2).1
      have := g1.2.1
      simp [gpRow]; omega
    simp only [vmA, Nat.reduceEqDiff, reduceIte, Nat.reduceAdd, Nat.reduceBEq, reduceCtorEq, Nat.reduceLT, Int.reduceLE, Int.reduceLT, Int.reduceEq, Nat.reduceMul, Nat.reduceLeDiff, e36, e4, e35, e34, o1, o2, o3, o4, o5, e11, p1, p2, p3, p4, p5, List.length_map, behind_nf, hasFro, hasFroL_vA, hasFroL_rO]
    have hZ : gI cs rs bl o t = .own 1 (M.map rO) := by
      unfold gI
      rw [if_pos ⟨g1, by omega, g3⟩, hM, hG]
    (refine hQ _ ?_; simp only [vmA, Nat.reduceEqDiff, reduceIte, Nat.reduceAdd, Nat.reduceBEq, reduceCtorEq, Nat.reduceLT, Int.reduceLE, Int.reduceLT, Int.reduceEq, Nat.reduceMul, Nat.reduceLeDiff, Try.f8, retG, resL, St.closeVs, St.closeV, Option.bind_none, List.take_length, hZ, behind_nf, hasFro, hasFroL_vA, hasFroL_rO])
