/- WALK of functions of the seat, or plain laws for it: each theorem f<k> says what function k returns, for every world and all arguments that stand for the values named. Conditions: none but those ahead of each theorem. -/
import Derived.Test.YtklhdnjhgbglhaaGreatVD4
import Derived.Test.YtklhdnjhgbglhaaGreatVD5
import Derived.Test.YtklhdnjhgbglhaaGreatVB7
import Derived.Test.YtklhdnjhgbglhaaGreatVLib6
open Go Go.Vm Go.Proofs
set_option maxRecDepth 100000
set_option maxHeartbeats 8000000
set_option linter.unusedSimpArgs false
set_option linter.unusedVariables false
set_option maxHeartbeats 8000000
set_option linter.unusedSimpArgs false
set_option linter.unusedVariables false
/-- A house as it may come. -/
structure inH (h : Hs) : Prop where
  n : h.vs.length ≤ 9223372036854775807
  row : ∀ v ∈ h.vs, okR v.row
  m : h.tx.length ≤ 9223372036854775807
  tx : ∀ t ∈ h.tx, okX t
structure smH (h : Hs) : Prop where
  n : h.vs.length ≤ 1048576
  row : ∀ v ∈ h.vs, smV v
  m : h.tx.length ≤ 1048576
  tx : ∀ t ∈ h.tx, smX t
theorem okH_of {h : Hs} (a : inH h) (b : smH h) : okH h := ⟨b.n, a.row, b.row, b.m, a.tx⟩
def hO (h : Hs) : AV := .agg [.own 4 (h.vs.map gO), .int .i64 h.ck, .own 5 (h.tx.map xO)]
theorem f20 (h : Hs) (hi : inH h) : FxR 20 [hA h, .int .i64 1048576] fun r l => (∃ n : Int, r = .int .i64 n ∧ -1 ≤ n ∧ n ≤ 1048576 ∧ (0 ≤ n → smH h)) ∧ l = .und := by
  refine fn_ofR ⟨false, [], []⟩ Tryz.func20 (by kernel_rfl) rfl (by kernel_rfl) (by kernel_rfl) (Nat.le_of_ble_eq_true rfl) rfl fun Q hQ => ?_
  simp only [vmA, Nat.reduceEqDiff, reduceIte, Nat.reduceAdd, Nat.reduceBEq, reduceCtorEq, Nat.reduceLT, Int.reduceLE, Int.reduceLT, Int.reduceEq, Nat.reduceMul, Nat.reduceLeDiff, hA]
  refine callR (f67 h.vs false 1048576 hi.row hi.n (by omega) (by omega)) ?_
  rintro _ _ ⟨⟨m, rfl, hm0, hm1, hm⟩, rfl⟩
  simp only [vmA, Nat.reduceEqDiff, reduceIte, Nat.reduceAdd, Nat.reduceBEq, reduceCtorEq, Nat.reduceLT, Int.reduceLE, Int.reduceLT, Int.reduceEq, Nat.reduceMul, Nat.reduceLeDiff]
  refine ⟨fun g => ?_, fun g => ?_⟩
  · (refine hQ _ ?_; simp only [vmA, Nat.reduceEqDiff, reduceIte, Nat.reduceAdd, Nat.reduceBEq, reduceCtorEq, Nat.reduceLT, Int.reduceLE, Int.reduceLT, Int.reduceEq, Nat.reduceMul, Nat.reduceLeDiff, Tryz.f20, retG, resL, St.closeVs, St.closeV])
    exact ⟨-1, rfl, by omega, by omega, by omega⟩
  refine callR (f68 h.tx false m hi.tx hi.m (by omega) (by omega)) ?_
  rintro _ _ ⟨⟨m2, rfl, hm2, hm3, hm4⟩, rfl⟩
  simp only [vmA, Nat.reduceEqDiff, reduceIte, Nat.reduceAdd, Nat.reduceBEq, reduceCtorEq, Nat.reduceLT, Int.reduceLE, Int.reduceLT, Int.reduceEq, Nat.reduceMul, Nat.reduceLeDiff]
  refine ⟨fun g2 => ?_, fun g2 => ?_⟩
  · (refine hQ _ ?_; simp only [vmA, Nat.reduceEqDiff, reduceIte, Nat.reduceAdd, Nat.reduceBEq, reduceCtorEq, Nat.reduceLT, Int.reduceLE, Int.reduceLT, Int.reduceEq, Nat.reduceMul, Nat.reduceLeDiff, Tryz.f20, retG, resL, St.closeVs, St.closeV])
    exact ⟨-1, rfl, by omega, by omega, by omega⟩
  · (refine hQ _ ?_; simp only [vmA, Nat.reduceEqDiff, reduceIte, Nat.reduceAdd, Nat.reduceBEq, reduceCtorEq, Nat.reduceLT, Int.reduceLE, Int.reduceLT, Int.reduceEq, Nat.reduceMul, Nat.reduceLeDiff, Tryz.f20, retG, resL, St.closeVs, St.closeV])
    exact ⟨m2, rfl, by omega, by omega, fun g3 => ⟨(hm (by omega)).1, (hm (by omega)).2, (hm4 g3).1, (hm4 g3).2⟩⟩
theorem f23 (h : Hs) (hs : smH h) : Fx 23 [hA h] (hO h) := by
  refine fn_of true Tryz.func23 (by kernel_rfl) rfl (by kernel_rfl) (by kernel_rfl) (Nat.le_of_ble_eq_true rfl) rfl fun Q hQ => ?_
  simp only [vmA, Nat.reduceEqDiff, reduceIte, Nat.reduceAdd, Nat.reduceBEq, reduceCtorEq, Nat.reduceLT, Int.reduceLE, Int.reduceLT, Int.reduceEq, Nat.reduceMul, Nat.reduceLeDiff, hA, Option.bind_none]
  refine callD (f72 h.vs false hs.n hs.row) ?_
  simp only [vmA, Nat.reduceEqDiff, reduceIte, Nat.reduceAdd, Nat.reduceBEq, reduceCtorEq, Nat.reduceLT, Int.reduceLE, Int.reduceLT, Int.reduceEq, Nat.reduceMul, Nat.reduceLeDiff, Option.bind_none]
  refine callD (f73 h.tx false hs.m hs.tx) ?_
  simp only [vmA, Nat.reduceEqDiff, reduceIte, Nat.reduceAdd, Nat.reduceBEq, reduceCtorEq, Nat.reduceLT, Int.reduceLE, Int.reduceLT, Int.reduceEq, Nat.reduceMul, Nat.reduceLeDiff, Option.bind_none]
  (refine hQ _ ?_; simp only [vmA, Nat.reduceEqDiff, reduceIte, Nat.reduceAdd, Nat.reduceBEq, reduceCtorEq, Nat.reduceLT, Int.reduceLE, Int.reduceLT, Int.reduceEq, Nat.reduceMul, Nat.reduceLeDiff, Tryz.f23, retG, resL, St.closeVs, St.closeV, Option.bind_none])
  rfl
theorem f26 (h : Hs) (hs : smH h) : Fx 26 [hA h, hA h] (.bool true) := by
  refine fn_of ⟨false, [], []⟩ Tryz.func26 (by kernel_rfl) rfl (by kernel_rfl) (by kernel_rfl) (Nat.le_of_ble_eq_true rfl) rfl fun Q hQ => ?_
  simp only [vmA, Nat.reduceEqDiff, reduceIte, Nat.reduceAdd, Nat.reduceBEq, reduceCtorEq, Nat.reduceLT, Int.reduceLE, Int.reduceLT, Int.reduceEq, Nat.reduceMul, Nat.reduceLeDiff, hA]
  refine callD (f76 h.vs false false hs.n hs.row) ?_
  simp only [vmA, Nat.reduceEqDiff, reduceIte, Nat.reduceAdd, Nat.reduceBEq, reduceCtorEq, Nat.reduceLT, Int.reduceLE, Int.reduceLT, Int.reduceEq, Nat.reduceMul, Nat.reduceLeDiff, hA]
  refine callD (f77 h.tx false false hs.m hs.tx) ?_
  simp only [vmA, Nat.reduceEqDiff, reduceIte, Nat.reduceAdd, Nat.reduceBEq, reduceCtorEq, Nat.reduceLT, Int.reduceLE, Int.reduceLT, Int.reduceEq, Nat.reduceMul, Nat.reduceLeDiff, hA]
  (refine hQ _ ?_; simp only [vmA, Nat.reduceEqDiff, reduceIte, Nat.reduceAdd, Nat.reduceBEq, reduceCtorEq, Nat.reduceLT, Int.reduceLE, Int.reduceLT, Int.reduceEq, Nat.reduceMul, Nat.reduceLeDiff, Tryz.f26, retG, resL, St.closeVs, St.closeV])
theorem set_xO (ts : List Tx) (i : Nat) (a b d : Int) (r : List Int) (w : List Wr) : (ts.map xO).set i (.agg [.int .i64 a, .int .i64 b, .int .i64 d, .own 1 (r.map iA), .own 3 (w.map wO)]) = (ts.set i ⟨a, b, d, r, w⟩).map xO := by rw [List.map_set]; rfl
theorem mod_xO3 (ts : List Tx) (i : Nat) (r : List Int) (h : i < ts.length) : (ts.map xO).modify i (fun x => reEl x ((leaves x).set 3 (.own 1 (r.map iA)))) = (ts.set i ⟨ts[i]!.st, ts[i]!.bg, ts[i]!.fn, r, ts[i]!.ws⟩).map xO := by
  have hl : i < (ts.map xO).length := by simpa using h
  rw [List.map_set, List.modify_eq_take_cons_drop hl]
  conv => rhs; rw [List.set_eq_take_append_cons_drop, if_pos hl]
  rw [List.getElem_map, getElem!_pos ts i h]
  rfl
theorem mod_xO4 (ts : List Tx) (i : Nat) (w : List Wr) (h : i < ts.length) : (ts.map xO).modify i (fun x => reEl x ((leaves x).set 4 (.own 3 (w.map wO)))) = (ts.set i ⟨ts[i]!.st, ts[i]!.bg, ts[i]!.fn, ts[i]!.rd, w⟩).map xO := by
  have hl : i < (ts.map xO).length := by simpa using h
  rw [List.map_set, List.modify_eq_take_cons_drop hl]
  conv => rhs; rw [List.set_eq_take_append_cons_drop, if_pos hl]
  rw [List.getElem_map, getElem!_pos ts i h]
  rfl
theorem f80 (ws : List Tx) (k : Int) (hk : 0 ≤ k) (hr : ∀ w ∈ ws, smX w) (hl : k + 3298538029059 * ws.length ≤ 4611686018427387904) : FxR 80 [.own 5 (ws.map xO), .int .i64 k] fun r l => ∃ (k' : Int) (ys : List Tx), r = .int .i64 k' ∧ k ≤ k' ∧ k' ≤ k + 3298538029059 * ws.length ∧ l = .own 5 (ys.map xO) ∧ ys.length = ws.length := by
  refine fn_ofW false (k := 0) Tryz.func80 (by kernel_rfl) rfl (by kernel_rfl) (by kernel_rfl) (Nat.le_of_ble_eq_true rfl) rfl ⟨_, _, .inl rfl⟩ rfl fun Q hQ => ?_
  simp only [vmA, Nat.reduceEqDiff, reduceIte, Nat.reduceAdd, Nat.reduceBEq, reduceCtorEq, Nat.reduceLT, Int.reduceLE, Int.reduceLT, Int.reduceEq, Nat.reduceMul, Nat.reduceLeDiff, List.length_map]
  refine WT_loop (fun (p : Nat × List Tx × Int) σ => (p.1 ≤ ws.length ∧ p.2.1.length = ws.length ∧ (∀ w ∈ p.2.1, smX w) ∧ k ≤ p.2.2 ∧ p.2.2 ≤ k + 3298538029059 * p.1) ∧ σ.sl 0 = .hd 0 1 0 ws.length false ∧ (σ.en 0).live = true ∧ (σ.en 0).gen = 1 ∧ (σ.en 0).frz = false ∧ (σ.en 0).sz = 5 ∧ (σ.en 0).elems = p.2.1.map xO ∧ σ.sl 1 = .int .i64 p.2.2 ∧ σ.sl 5 = .int .i64 p.1) (fun p => ws.length - p.1) (0, ws, k) ⟨⟨by simp, rfl, hr, by simp, by simp⟩, by simp [vmI], by simp [vmI], by simp [vmI], by simp [vmI], by simp [vmI], by simp [vmI], by simp [vmI], by simp [vmI]⟩ ?_
  rintro ⟨i, ys, m⟩ σ ⟨⟨hi, hyl, hyr, hm0, hm1⟩, e0, l1, l2, l3, l4, l5, e1, e5⟩
  dsimp only at hi hyl hyr hm0 hm1 l5 e1 e5
  simp only [vmA, Nat.reduceEqDiff, reduceIte, Nat.reduceAdd, Nat.reduceBEq, reduceCtorEq, Nat.reduceLT, Int.reduceLE, Int.reduceLT, Int.reduceEq, Nat.reduceMul, Nat.reduceLeDiff, e0, l1, l2, l3, l4, l5, e1, e5, List.length_map, hyl, xO, set_xO, List.length_set]
  refine ⟨fun hlt => ?_, fun hge => ?_⟩
  · refine ⟨hlt, by omega, hlt, by omega, hlt, by omega, hlt, by omega, ?_⟩
    simp (disch := first | omega | (simp; omega)) only [get_set, List.set_set, wr]
    have hyi : smX ys[i]! := by rw [getElem!_pos ys i (by omega)]; exact hyr _ (List.getElem_mem _)
    obtain ⟨hy1, hy2, hy3⟩ := hyi
    refine ⟨by omega, ?_⟩
    refine callR (f44 ys[i]!.rd (m + 1 + 1 + 1) (by omega) (by omega)) ?_
    rintro _ _ ⟨rfl, rfl⟩
    have hm3 := mod_xO3 (ys.set i ⟨m, m + 1, m + 1 + 1, ys[i]!.rd, ys[i]!.ws⟩) i ((List.range ys[i]!.rd.length).map fun j : Nat => m + 1 + 1 + 1 + (j : Int)) (by simp; omega)
    rw [get_set ys i _ (by omega), List.set_set] at hm3
    simp only [vmA, Nat.reduceEqDiff, reduceIte, Nat.reduceAdd, Nat.reduceBEq, reduceCtorEq, Nat.reduceLT, Int.reduceLE, Int.reduceLT, Int.reduceEq, Nat.reduceMul, Nat.reduceLeDiff, e0, l1, l2, l3, l4, l5, e1, e5, List.length_map, hyl, hm3, xO, set_xO, List.length_set]
    simp (disch := first | omega | (simp; omega)) only [get_set, List.set_set, wr, hm3]
    simp only [vmA, Nat.reduceEqDiff, reduceIte, Nat.reduceAdd, Nat.reduceBEq, reduceCtorEq, Nat.reduceLT, Int.reduceLE, Int.reduceLT, Int.reduceEq, Nat.reduceMul, Nat.reduceLeDiff, e0, l1, l2, l3, l4, l5, e1, e5, List.length_map, hyl, xO, set_xO, List.length_set]
    refine ⟨hlt, by omega, ?_⟩
    simp (disch := first | omega | (simp; omega)) only [get_set, List.set_set, wr, hm3]
    simp only [vmA, Nat.reduceEqDiff, reduceIte, Nat.reduceAdd, Nat.reduceBEq, reduceCtorEq, Nat.reduceLT, Int.reduceLE, Int.reduceLT, Int.reduceEq, Nat.reduceMul, Nat.reduceLeDiff, e0, l1, l2, l3, l4, l5, e1, e5, List.length_map, hyl, xO, set_xO, List.length_set]
    simp (disch := first | omega | (simp; omega)) only [get_set, List.set_set, wr, hm3]
    refine ⟨by omega, ?_⟩
    refine callR (f140 ys[i]!.ws (m + 1 + 1 + 1 + ys[i]!.rd.length) (by omega) hy3 (by omega)) ?_
    rintro _ _ ⟨k', r, rfl, hk0, hk1, rfl, hrl, hrr⟩
    have hm4 := mod_xO4 (ys.set i ⟨m, m + 1, m + 1 + 1, (List.range ys[i]!.rd.length).map fun j : Nat => m + 1 + 1 + 1 + (j : Int), ys[i]!.ws⟩) i r (by simp; omega)
    rw [get_set ys i _ (by omega), List.set_set] at hm4
    simp only [vmA, Nat.reduceEqDiff, reduceIte, Nat.reduceAdd, Nat.reduceBEq, reduceCtorEq, Nat.reduceLT, Int.reduceLE, Int.reduceLT, Int.reduceEq, Nat.reduceMul, Nat.reduceLeDiff, e0, l1, l2, l3, l4, l5, e1, e5, List.length_map, hyl, hm4, xO, set_xO, List.length_set]
    simp (disch := first | omega | (simp; omega)) only [get_set, List.set_set, wr, hm3, hm4]
    refine ⟨(i + 1, ys.set i ⟨m, m + 1, m + 1 + 1, (List.range ys[i]!.rd.length).map fun j : Nat => m + 1 + 1 + 1 + (j : Int), r⟩, k'), ⟨⟨by dsimp only; omega, by dsimp only; simp [hyl], fun w hw => ?_, by dsimp only; omega, by dsimp only; omega⟩, rfl, leafJ (by dsimp only), rfl⟩, by dsimp only; omega⟩
    dsimp only at hw
    rcases List.mem_or_eq_of_mem_set hw with h | h
    · exact hyr _ h
    · rw [h]; exact ⟨by simpa using hy1, by dsimp only; omega, hrr⟩
  · (refine hQ _ ?_; simp only [vmA, Nat.reduceEqDiff, reduceIte, Nat.reduceAdd, Nat.reduceBEq, reduceCtorEq, Nat.reduceLT, Int.reduceLE, Int.reduceLT, Int.reduceEq, Nat.reduceMul, Nat.reduceLeDiff, Tryz.f80, retG, resL, St.closeVs, St.closeV, leftV, ghostW, e0, l1, l2, l3, l4, l5, e1, e5, List.length_map, hyl])
    refine ⟨m, ys, rfl, hm0, by omega, ?_, hyl⟩
    rw [List.take_of_length_le (by simp; omega)]
theorem fn_ofA (m : Md) {f : Nat} {fn : Func} {c : Code} {fs rest : List AV} {R : AV → AV → Prop} (hf : Tryz.prog.funcs[f]? = some fn) (hn : (fn.name == "runtime.NumGoroutine") = false) (hb : fn.body = some c) (hok : okCode fn.ntmps c = true)
    (hw : C.wrt f = some 1000) (hl : rest.length + 1 ≤ fn.ntmps) (h9 : rest.length ≤ 900) (ha : rest.all plainArg = true)
    (hW : ∀ Q, (∀ σ, exP (retG (CC m) σ fn.results.toList) (fun p => R p.1 (.tup [])) → Q .ret σ) → WT (CC m) D c Q (St.handS fs rest) ⟨⟩) : FxR f (.agg fs :: rest) R := by
  obtain ⟨h1, h2⟩ := okCode_tr c C.wrt hok
  exact ⟨⟨fn, c, hf, hn, hb⟩, does_of_AX (rs := []) (Cok m) (Dok m) hf hb h1 hw hl h9 ha (by rw [h2]; exact hW _ fun _ h => h)⟩
theorem modH0 (a b c y : AV) : [AV.agg [a, b, c]].modify 0 (fun x => reEl x ((leaves x).set 0 y)) = [.agg [y, b, c]] := rfl
theorem modH2 (a b c y : AV) : [AV.agg [a, b, c]].modify 0 (fun x => reEl x ((leaves x).set 2 y)) = [.agg [a, b, y]] := rfl
theorem f28 (h : Hs) (hs : smH h) : FxR 28 [hO h, .int .i64 1] fun r l => (∃ k' : Int, r = .int .i64 k' ∧ 0 ≤ k') ∧ l = .tup [] := by
  have hn := hs.n
  have hm := hs.m
  refine fn_ofA ⟨true, [], []⟩ Tryz.func28 (by kernel_rfl) rfl (by kernel_rfl) (by kernel_rfl) (Nat.le_of_ble_eq_true rfl) (by decide) rfl fun Q hQ => ?_
  simp only [St.handS, takeV, takeL, takeLeaf]
  simp only [vmA, Nat.reduceEqDiff, reduceIte, Nat.reduceAdd, Nat.reduceBEq, reduceCtorEq, Nat.reduceLT, Int.reduceLE, Int.reduceLT, Int.reduceEq, Nat.reduceMul, Nat.reduceLeDiff, List.length_map, Option.bind_none]
  refine callR (f79 h.vs 1 (by omega) hs.row (by omega)) ?_
  rintro _ _ ⟨k1, ys, rfl, hk0, hk1, rfl, hyl⟩
  simp only [vmA, Nat.reduceEqDiff, reduceIte, Nat.reduceAdd, Nat.reduceBEq, reduceCtorEq, Nat.reduceLT, Int.reduceLE, Int.reduceLT, Int.reduceEq, Nat.reduceMul, Nat.reduceLeDiff, List.length_map, Option.bind_none, modH0]
  refine callR (f80 h.tx k1 (by omega) hs.tx (by omega)) ?_
  rintro _ _ ⟨k2, zs, rfl, hk2, hk3, rfl, hzl⟩
  simp only [vmA, Nat.reduceEqDiff, reduceIte, Nat.reduceAdd, Nat.reduceBEq, reduceCtorEq, Nat.reduceLT, Int.reduceLE, Int.reduceLT, Int.reduceEq, Nat.reduceMul, Nat.reduceLeDiff, List.length_map, Option.bind_none, modH0, modH2]
  (refine hQ _ ?_; simp only [vmA, Nat.reduceEqDiff, reduceIte, Nat.reduceAdd, Nat.reduceBEq, reduceCtorEq, Nat.reduceLT, Int.reduceLE, Int.reduceLT, Int.reduceEq, Nat.reduceMul, Nat.reduceLeDiff, Tryz.f28, retG, resL, St.closeVs, St.closeV, Option.bind_none])
  exact ⟨_, rfl, by omega⟩
