/- WALK of functions of the seat, or plain laws for it: each theorem f<k> says what function k returns, for every world and all arguments that stand for the values named. Conditions: none but those ahead of each theorem. -/
import Derived.Test.YtboeimkfcfdabaaWK10
open Go Go.Vm Go.Proofs
set_option maxRecDepth 100000
set_option maxHeartbeats 8000000
set_option linter.unusedSimpArgs false
set_option linter.unusedVariables false
-- TREES 11:13
theorem allP_grp {cs : List Col} {rs : List (List Val)} {bl : List Int} {o t : Int} (h1 : toldP cs bl o t) (h2 : allP cs rs) (hs : ∀ r ∈ rs, okR r) : grpP rs bl o := fun r hr => by
  obtain ⟨_, q2, q3, _⟩ := h2.2 r hr
  have := q2.1
  exact ⟨hs r hr, by omega, fun n hn => by have := h1.2.2.1 n hn; omega, by have := h1.2.2.2.1; omega, by have := h1.2.2.2.1; omega⟩
def gKeys (rs : List (List Val)) (bl : List Int) : List (List Val) := onceR (rs.map fun r => takeBy r bl)
def gRow (rs : List (List Val)) (bl : List Int) (o t : Int) (key : List Val) : List Val := key ++ [knTell (knL rs bl o key) t]
def gRows (rs : List (List Val)) (bl : List Int) (o t : Int) : List (List Val) := (gKeys rs bl).map (gRow rs bl o t)
def gR (cs : List Col) (rs : List (List Val)) (bl : List Int) (o t : Int) : List (List Val) := if toldP cs bl o t ∧ rs.length ≤ 100 ∧ allP cs rs then gRows rs bl o t else []
theorem gKey_len {rs : List (List Val)} {bl : List Int} : ∀ x ∈ gKeys rs bl, x.length = bl.length := fun x hx => by
  rcases onceR_mem _ _ x hx with h | h
  · simp at h
  · obtain ⟨r, _, rfl⟩ := List.mem_map.1 h
    simp [takeBy]
theorem f11 (cs : List Col) (rs : List (List Val)) (bl : List Int) (o t : Int) (c d e : Bool) (hc : cs.length ≤ 1048576) (hr : rs.length ≤ 1048576) (hb : bl.length ≤ 1048576) (hs : ∀ r ∈ rs, okR r) : Fx 11 [.fro none c (cs.map cA), .fro none d (rs.map rA), .fro none e (bl.map iA), .int .i64 o, .int .i64 t] (.own 1 ((gR cs rs bl o t).map rO)) := by
  refine fn_ofX ⟨true, [], [(13, [], [1000, 0, 1, 2, 3, 4, 6, 7, 8, 9, 10, 11, 12, 14])]⟩ Try.func11 (by kernel_rfl) rfl (by kernel_rfl) (by kernel_rfl) (Nat.le_of_ble_eq_true rfl) rfl fun Q hQ => ?_
  simp only [tr_seq, tr_block, tr_loop, tr_cond, tr_skip, tr_exit, tr_ret, tr_reg]
  rw [tr_tree 13 [0, 1, 2, 3, 4, 6, 7, 8, 9, 10, 11, 12, 14] (.both 5 (.both 13 (.both 15 (.both 16 (.both 17 (.both 18 (.both 19 (.both 20 .leaf .leaf) .leaf) .leaf) .leaf) .leaf) .leaf) .leaf) .leaf) (by kernel_rfl)]
  simp only [codeA_nil, codeA_look, codeA_hard, codeA_fin, ordC_leaf, ordC_one, ordC_both, pickL, List.getElem?_toArray, List.getElem?_cons_zero, List.getElem?_cons_succ]
  simp only [vmA, Nat.reduceEqDiff, reduceIte, Nat.reduceAdd, Nat.reduceBEq, reduceCtorEq, Nat.reduceLT, Int.reduceLE, Int.reduceLT, Int.reduceEq, Nat.reduceMul, Nat.reduceLeDiff, List.length_map, Option.bind_none]
  refine callD (f29 cs c rs d bl e o t hc hb hr hs) ?_
  simp only [vmA, Nat.reduceEqDiff, reduceIte, Nat.reduceAdd, Nat.reduceBEq, reduceCtorEq, Nat.reduceLT, Int.reduceLE, Int.reduceLT, Int.reduceEq, Nat.reduceMul, Nat.reduceLeDiff, List.length_map, Option.bind_none]
  refine ⟨fun g => ?_, fun g => ?_⟩
  · (refine hQ _ ?_; simp only [vmA, Nat.reduceEqDiff, reduceIte, Nat.reduceAdd, Nat.reduceBEq, reduceCtorEq, Nat.reduceLT, Int.reduceLE, Int.reduceLT, Int.reduceEq, Nat.reduceMul, Nat.reduceLeDiff, Try.f11, retG, resL, St.closeVs, St.closeV, Option.bind_none, List.take_nil])
    unfold gR
    rw [if_neg g]
    rfl
  obtain ⟨g1, g2, g3⟩ := g
  have hg := allP_grp g1 g3 hs
  refine WT_loopR (fun (zz : Nat × Nat × List (List Val)) σ => (zz.1 ≤ rs.length ∧ zz.2.2 = (rs.take zz.1).map fun r => takeBy r bl) ∧ σ.sl 13 = .int .i64 zz.1 ∧ σ.sl 0 = .fro none c (cs.map cA) ∧ σ.sl 1 = .fro none d (rs.map rA) ∧ σ.sl 2 = .fro none e (bl.map iA) ∧ σ.sl 3 = .int .i64 o ∧ σ.sl 4 = .int .i64 t ∧ σ.sl 12 = .hd 768 zz.2.1 0 (zz.2.2.length) false ∧ (σ.en 768).live = true ∧ (σ.en 768).gen = zz.2.1 ∧ (σ.en 768).frz = false ∧ (σ.en 768).sz = 1 ∧ (σ.en 768).elems = zz.2.2.map rO ∧ σ.sl 11 = .hd 960 1 0 0 true ∧ (σ.en 960).live = true ∧ (σ.en 960).gen = 1 ∧ (σ.en 960).frz = false ∧ (σ.en 960).sz = 1 ∧ (σ.en 960).elems = []) (fun zz => rs.length - zz.1) 12 ?_ ?_
  · simp only [vmA, Nat.reduceEqDiff, reduceIte, Nat.reduceAdd, Nat.reduceBEq, reduceCtorEq, Nat.reduceLT, Int.reduceLE, Int.reduceLT, Int.reduceEq, Nat.reduceMul, Nat.reduceLeDiff, reown]
    exact ⟨(0, 1, []), ⟨Nat.zero_le _, rfl⟩, rfl, rfl, rfl, rfl⟩
  rintro ⟨i, γ, L⟩ σ ⟨hi, e13, e0, e1, e2, e3, e4, e12, m768a, m768b, m768c, m768d, m768e, e11, m960a, m960b, m960c, m960d, m960e⟩
  try dsimp only at e13 e0 e1 e2 e3 e4 e12 m768a m768b m768c m768d m768e e11 m960a m960b m960c m960d m960e hi
  obtain ⟨hi, hL⟩ := hi
  have hLl : L.length = i := by rw [hL]; simp; omega
  have hLr : ∀ x ∈ L, x.length ≤ 1048576 := fun x hx => by
    rw [hL] at hx
    obtain ⟨r, _, rfl⟩ := List.mem_map.1 hx
    simp [takeBy]; omega
  simp only [vmA, Nat.reduceEqDiff, reduceIte, Nat.reduceAdd, Nat.reduceBEq, reduceCtorEq, Nat.reduceLT, Int.reduceLE, Int.reduceLT, Int.reduceEq, Nat.reduceMul, Nat.reduceLeDiff, e13, e0, e1, e2, e3, e4, e12, m768a, m768b, m768c, m768d, m768e, e11, m960a, m960b, m960c, m960d, m960e, rA, List.length_map, Option.bind_none, reown, List.take_length]
  refine ⟨fun hlt => ?_, fun hge => ?_⟩
  · obtain ⟨q1, q2, q3, q4, q5⟩ := hg rs[i]! (by rw [getElem!_pos rs i (by omega)]; exact List.getElem_mem _)
    refine ⟨hlt, by omega, callD (f30 rs[i]! bl false e hb q3) ?_⟩
    simp only [vmA, Nat.reduceEqDiff, reduceIte, Nat.reduceAdd, Nat.reduceBEq, reduceCtorEq, Nat.reduceLT, Int.reduceLE, Int.reduceLT, Int.reduceEq, Nat.reduceMul, Nat.reduceLeDiff, e13, e0, e1, e2, e3, e4, e12, m768a, m768b, m768c, m768d, m768e, e11, m960a, m960b, m960c, m960d, m960e, rA, List.length_map, Option.bind_none, reown, List.take_length]
    rw [wr (by omega)]
    refine ⟨⟨by omega, by omega⟩, by simp, ⟨(i + 1, _, L ++ [takeBy rs[i]! bl]), ⟨⟨by dsimp only; omega, by dsimp only; rw [take_next rs i (by omega), List.map_append, hL]; rfl⟩, rfl, ?_, rfl, ?_⟩, by dsimp only; omega⟩⟩
    · simp
    · dsimp only
      rw [List.take_of_length_le (by simp), List.map_append]
      rfl
  · obtain rfl : i = rs.length := by omega
    rw [List.take_length] at hL
    rw [map_froize_rO]
    refine callD (f31 L false (by omega) hLr) ?_
    have hK : onceR L = gKeys rs bl := by rw [hL]; rfl
    rw [hK]
    have hkl : (gKeys rs bl).length ≤ 100 := by
      have := onceR_len L L.length (Nat.le_refl _)
      rw [List.take_length, hK] at this
      omega
    obtain ⟨γ2, hγ⟩ : ∃ g, g = (σ.en 2624).gen + 1 := ⟨_, rfl⟩
    simp only [vmA, Nat.reduceEqDiff, reduceIte, Nat.reduceAdd, Nat.reduceBEq, reduceCtorEq, Nat.reduceLT, Int.reduceLE, Int.reduceLT, Int.reduceEq, Nat.reduceMul, Nat.reduceLeDiff, e13, e0, e1, e2, e3, e4, e12, m768a, m768b, m768c, m768d, m768e, e11, m960a, m960b, m960c, m960d, m960e, rA, List.length_map, Option.bind_none, reown, List.take_length, hasFroL_rO, behind_nf, hasFro, ← hγ]
    refine WT_loopR (fun (zz : Nat × Nat × List (List Val)) σ => (zz.1 ≤ (gKeys rs bl).length ∧ zz.2.2 = ((gKeys rs bl).take zz.1).map (gRow rs bl o t)) ∧ σ.sl 14 = .int .i64 zz.1 ∧ σ.sl 1 = .fro none d (rs.map rA) ∧ σ.sl 2 = .fro none e (bl.map iA) ∧ σ.sl 3 = .int .i64 o ∧ σ.sl 4 = .int .i64 t ∧ σ.sl 12 = .hd 2624 γ2 0 (gKeys rs bl).length false ∧ (σ.en 2624).live = true ∧ (σ.en 2624).gen = γ2 ∧ (σ.en 2624).frz = false ∧ (σ.en 2624).sz = 1 ∧ (σ.en 2624).elems = (gKeys rs bl).map rO ∧ σ.sl 11 = .hd 704 zz.2.1 0 (zz.2.2.length) false ∧ (σ.en 704).live = true ∧ (σ.en 704).gen = zz.2.1 ∧ (σ.en 704).frz = false ∧ (σ.en 704).sz = 1 ∧ (σ.en 704).elems = zz.2.2.map rO) (fun zz => (gKeys rs bl).length - zz.1) 11 ?_ ?_
    · simp only [vmA, Nat.reduceEqDiff, reduceIte, Nat.reduceAdd, Nat.reduceBEq, reduceCtorEq, Nat.reduceLT, Int.reduceLE, Int.reduceLT, Int.reduceEq, Nat.reduceMul, Nat.reduceLeDiff, reown, e13, e0, e1, e2, e3, e4, e12, m768a, m768b, m768c, m768d, m768e, e11, m960a, m960b, m960c, m960d, m960e, List.length_map]
      exact ⟨(0, _, []), ⟨Nat.zero_le _, rfl⟩, rfl, hγ.symm, rfl, rfl, rfl⟩
    clear e13 e0 e1 e2 e3 e4 e12 m768a m768b m768c m768d m768e e11 m960a m960b m960c m960d m960e
    rintro ⟨i, γ, M⟩ σ ⟨hi, e14, e1, e2, e3, e4, e12, m2624a, m2624b, m2624c, m2624d, m2624e, e11, m704a, m704b, m704c, m704d, m704e⟩
    try dsimp only at e14 e1 e2 e3 e4 e12 m2624a m2624b m2624c m2624d m2624e e11 m704a m704b m704c m704d m704e hi
    obtain ⟨hi, hM⟩ := hi
    have hMl : M.length = i := by rw [hM]; simp; omega
    simp only [vmA, Nat.reduceEqDiff, reduceIte, Nat.reduceAdd, Nat.reduceBEq, reduceCtorEq, Nat.reduceLT, Int.reduceLE, Int.reduceLT, Int.reduceEq, Nat.reduceMul, Nat.reduceLeDiff, e14, e1, e2, e3, e4, e12, m2624a, m2624b, m2624c, m2624d, m2624e, e11, m704a, m704b, m704c, m704d, m704e, rA, rO, List.length_map, Option.bind_none, reown, List.take_length, map_froize_vA, behind_nf, hasFro, hasFroL_vA, hasFroL_rO]
    refine ⟨fun hlt => ?_, fun hge => ?_⟩
    · have hkey := gKey_len (gKeys rs bl)[i]! (by rw [getElem!_pos (gKeys rs bl) i (by omega)]; exact List.getElem_mem _)
      refine ⟨by omega, by omega, by omega, by omega, callD (f28 (gKeys rs bl)[i]! false (by omega)) ?_⟩
      simp only [vmA, Nat.reduceEqDiff, reduceIte, Nat.reduceAdd, Nat.reduceBEq, reduceCtorEq, Nat.reduceLT, Int.reduceLE, Int.reduceLT, Int.reduceEq, Nat.reduceMul, Nat.reduceLeDiff, e14, e1, e2, e3, e4, e12, m2624a, m2624b, m2624c, m2624d, m2624e, e11, m704a, m704b, m704c, m704d, m704e, rA, rO, List.length_map, Option.bind_none, reown, List.take_length, map_froize_vA, behind_nf, hasFro, hasFroL_vA, hasFroL_rO]
      refine callD (f33 rs bl o (gKeys rs bl)[i]! d e false hr hb (by omega) hg) ?_
      simp only [vmA, Nat.reduceEqDiff, reduceIte, Nat.reduceAdd, Nat.reduceBEq, reduceCtorEq, Nat.reduceLT, Int.reduceLE, Int.reduceLT, Int.reduceEq, Nat.reduceMul, Nat.reduceLeDiff, e14, e1, e2, e3, e4, e12, m2624a, m2624b, m2624c, m2624d, m2624e, e11, m704a, m704b, m704c, m704d, m704e, rA, rO, kA, vA, List.length_map, Option.bind_none, reown, List.take_length, map_froize_vA, behind_nf, hasFro, hasFroL_vA, hasFroL_rO]
      refine callD (f32 (knL rs bl o (gKeys rs bl)[i]!) t (knL_ok hg)) ?_
      simp only [vmA, Nat.reduceEqDiff, reduceIte, Nat.reduceAdd, Nat.reduceBEq, reduceCtorEq, Nat.reduceLT, Int.reduceLE, Int.reduceLT, Int.reduceEq, Nat.reduceMul, Nat.reduceLeDiff, e14, e1, e2, e3, e4, e12, m2624a, m2624b, m2624c, m2624d, m2624e, e11, m704a, m704b, m704c, m704d, m704e, rA, rO, kA, vA, List.length_map, Option.bind_none, reown, List.take_length, map_froize_vA, behind_nf, hasFro, hasFroL_vA, hasFroL_rO]
      rw [wr (by omega)]
      refine ⟨⟨by omega, by omega⟩, by simp, ⟨by omega, by omega⟩, by simp, ⟨(i + 1, _, M ++ [gRow rs bl o t (gKeys rs bl)[i]!]), ⟨⟨by dsimp only; omega, by dsimp only; rw [take_next (gKeys rs bl) i (by omega), List.map_append, hM]; rfl⟩, rfl, ?_, rfl, ?_⟩, by dsimp only; omega⟩⟩
      · simp
      · dsimp only
        rw [List.take_of_length_le (by simp), List.take_of_length_le (by simp), List.map_append]
        simp only [gRow, rO, vA, List.map_append, List.map_cons, List.map_nil]
    · (refine hQ _ ?_; simp only [vmA, Nat.reduceEqDiff, reduceIte, Nat.reduceAdd, Nat.reduceBEq, reduceCtorEq, Nat.reduceLT, Int.reduceLE, Int.reduceLT, Int.reduceEq, Nat.reduceMul, Nat.reduceLeDiff, Try.f11, retG, resL, St.closeVs, St.closeV, e14, e1, e2, e3, e4, e12, m2624a, m2624b, m2624c, m2624d, m2624e, e11, m704a, m704b, m704c, m704d, m704e, List.take_length])
      rw [hM, List.take_of_length_le (by omega)]
      unfold gR
      rw [if_pos ⟨g1, g2, g3⟩]
      rfl
