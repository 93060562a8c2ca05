/- WALK of functions of the seat, or plain laws for it: each theorem f<k> says what function k returns, for every world and all arguments that stand for the values named. Conditions: none but those ahead of each theorem. -/
import Derived.Test.YtboeimkfcfdabaaWE2
open Go Go.Vm Go.Proofs
set_option maxRecDepth 100000
set_option maxHeartbeats 8000000
set_option linter.unusedSimpArgs false
set_option linter.unusedVariables false
theorem WinR.len {ws : List (List Val)} {ys : List (Nat × List Val)} (h : WinR ws ys) : (ys.map Prod.snd).length ≤ 50 := by
  rcases h with ⟨hw, hp, _⟩ | ⟨_, rfl⟩
  · rw [List.length_map, hp.length_eq, tagL_length]; exact hw.1
  · simp
theorem hasFroL_sA (xs : List Spt) : hasFro.hasFroL (xs.map sA) = false := by
  induction xs with
  | nil => rfl
  | cons x xs ih => simp only [List.map_cons, hasFro.hasFroL, ih, sA, hasFro]; rfl
theorem winP.sum {r : List Val} (h : winP r) : (-9999 ≤ r[2]!.n ∧ r[2]!.n ≤ 9999) ∧ (¬ r[2]!.k = 1 → r[2]!.n = 0) := by
  have h1 := h.at (i := 2) (by omega)
  have h2 := h.2.2
  unfold valP at h1
  rcases h1 with h1 | h1 | h1 | h1 <;> omega
theorem wStep_bd {r s : List Val} {a : Spt} {B : Int} (h : winP s) (h1 : -B ≤ a.s) (h2 : a.s ≤ B) (hB : B ≤ 1000000000) : -(B + 9999) ≤ (wStep r a s).s ∧ (wStep r a s).s ≤ B + 9999 := by
  have := h.sum
  unfold wStep
  split
  · dsimp only
    split
    · split
      · rw [wr (by omega)]; omega
      · omega
    · omega
  · omega
theorem wFold_bd {r : List Val} : ∀ (l : List (List Val)) (a : Spt) (B : Int), (∀ s ∈ l, winP s) → -B ≤ a.s → a.s ≤ B → 0 ≤ B → B + 9999 * l.length ≤ 1000000000 → -(B + 9999 * l.length) ≤ (l.foldl (wStep r) a).s ∧ (l.foldl (wStep r) a).s ≤ B + 9999 * l.length
  | [], a, B, _, h1, h2, _, _ => by simp; omega
  | s :: l, a, B, hw, h1, h2, h3, h4 => by
    simp only [List.length_cons] at h4 ⊢
    have hb := wStep_bd (r := r) (hw s (by simp)) h1 h2 (by omega)
    have := wFold_bd (r := r) l (wStep r a s) (B + 9999) (fun x hx => hw x (by simp [hx])) hb.1 hb.2 (by omega) (by omega)
    rw [List.foldl_cons]
    omega
theorem f6 (ws : List (List Val)) (c : Bool) (hl : ws.length ≤ 1048576) (hr : ∀ w ∈ ws, w.length ≤ 1048576) (hs : ∀ r ∈ ws, okR r) : FxR 6 [.fro none c (ws.map rA)] fun r l => (∃ ys, WinR ws ys ∧ r = .own 2 ((((ys.map Prod.snd).map (wSpot (ys.map Prod.snd)))).map sA)) ∧ l = .und := by
  refine fn_ofX ⟨false, [], []⟩ Try.func6 (by kernel_rfl) rfl (by kernel_rfl) (by kernel_rfl) (Nat.le_of_ble_eq_true rfl) rfl fun Q hQ => ?_
  simp only [tr_seq, tr_block, tr_loop, tr_cond, tr_skip, tr_exit, tr_ret, tr_reg]
  rw [tr_calm (by kernel_rfl), tr_calm (by kernel_rfl), tr_calm (by kernel_rfl), tr_cut 8 (by kernel_rfl)]
  simp only [vmA, Nat.reduceEqDiff, reduceIte, Nat.reduceAdd, Nat.reduceBEq, reduceCtorEq, Nat.reduceLT, Int.reduceLE, Int.reduceLT, Int.reduceEq, Nat.reduceMul, Nat.reduceLeDiff]
  refine callR (f15 ws c hl hr hs) ?_
  rintro _ _ ⟨⟨ys, hy, rfl⟩, rfl⟩
  rw [rT_snd]
  have hsub := hy.sub
  have hyl : ys.length = (ys.map Prod.snd).length := by rw [List.length_map]
  have hw : ∀ r ∈ ys.map Prod.snd, winP r := hy.win
  simp only [vmA, Nat.reduceEqDiff, reduceIte, Nat.reduceAdd, Nat.reduceBEq, reduceCtorEq, Nat.reduceLT, Int.reduceLE, Int.reduceLT, Int.reduceEq, Nat.reduceMul, Nat.reduceLeDiff, behind_nf, hasFroL_rO, List.length_map]
  rw [hyl]
  refine Exists.elim (show ∃ rs : List (List Val), rs = ys.map Prod.snd from ⟨_, rfl⟩) fun rs hrs => ?_
  have hQ' : ∀ σ, (exP (retG (CC ⟨false, [], []⟩) σ Try.f6.results.toList) fun p => p.1 = .own 2 ((rs.map (wSpot rs)).map sA) ∧ AV.und = AV.und) → Q Ex.ret σ := fun σ h => hQ σ (by
    refine exP_imp ?_ h
    rintro p ⟨hp, _⟩
    exact ⟨⟨ys, hy, by rw [hp, hrs]⟩, rfl⟩)
  have h50 : rs.length ≤ 50 := by rw [hrs]; exact hy.len
  rw [← hrs] at hsub hw ⊢
  clear hyl hrs hy hQ
  obtain ⟨k1, k2⟩ := hsub
  have k3 : ∀ r ∈ rs, okR r := fun r h => hs r (k2 r h)
  refine WT_loopN (fun (p : Nat × Nat) σ => p.1 ≤ rs.length ∧ σ.sl 18 = .int .i64 p.1 ∧ σ.sl 17 = .int .i64 rs.length ∧ σ.sl 16 = .hd 832 1 0 rs.length false ∧ σ.sl 3 = .hd 832 1 0 rs.length false ∧ (σ.en 832).live = true ∧ (σ.en 832).gen = 1 ∧ (σ.en 832).frz = false ∧ (σ.en 832).sz = 1 ∧ (σ.en 832).elems = rs.map rO ∧ σ.sl 5 = .hd 320 p.2 0 p.1 false ∧ (σ.en 320).live = true ∧ (σ.en 320).gen = p.2 ∧ (σ.en 320).frz = false ∧ (σ.en 320).sz = 2 ∧ (σ.en 320).elems = ((rs.take p.1).map (wSpot rs)).map sA) (fun p => rs.length - p.1) (0, 1) 5 2 (by simp [put_sl, put_en, put_none, init_sl, fresh_sl, fresh_en, ent_sl, ent_en, init_en]) (by simp [put_sl, put_en, put_none, init_sl, fresh_sl, fresh_en, ent_sl, ent_en, init_en, takeRes, takeV, takeLeaf, eid]) ?_
  rintro ⟨i, γ⟩ σ ⟨hi, e18, e17, e16, e3, m1, m2, m3, m4, m5, e5, l1, l2, l3, l4, l5⟩
  dsimp only at hi e18 e17 e16 e3 m1 m2 m3 m4 m5 e5 l1 l2 l3 l4 l5
  obtain ⟨δ, hδ⟩ : ∃ δ, (σ.en 512).gen + 1 = δ := ⟨_, rfl⟩
  obtain ⟨ω, m6⟩ : ∃ ω, (σ.en 832).wr = ω := ⟨_, rfl⟩
  by_cases hlt : i < rs.length
  · have f0 : ((i : Int) < rs.length) = True := eq_true (by omega)
    have f1 : (i < rs.length) = True := eq_true (by omega)
    simp only [vmA, Nat.reduceEqDiff, reduceIte, Nat.reduceAdd, Nat.reduceBEq, reduceCtorEq, Nat.reduceLT, Int.reduceLE, Int.reduceLT, Int.reduceEq, Nat.reduceMul, Nat.reduceLeDiff, e18, e17, e16, e3, m1, m2, m3, m4, m5, m6, e5, l1, l2, l3, l4, l5, List.length_map, rO, hδ, f0, f1]
    have hmi : rs[i]! ∈ rs := by rw [getElem!_pos rs i hlt]; exact List.getElem_mem _
    have hwi := hw _ hmi
    obtain ⟨c0, c1, c2, d0, d1, d2⟩ := winLens hwi
    refine WT_loop (fun (q : Nat) σ => q ≤ rs.length ∧ σ.sl 25 = .int .i64 q ∧ σ.sl 24 = .int .i64 rs.length ∧ σ.sl 23 = .hd 832 1 0 rs.length false ∧ σ.sl 7 = .fro (some (832, ω, some (i, 0))) false (rs[i]!.map vA) ∧ σ.sl 8 = .ptr 512 δ 0 0 ∧ (σ.en 512).live = true ∧ (σ.en 512).gen = δ ∧ (σ.en 512).frz = false ∧ (σ.en 512).sz = 2 ∧ (σ.en 512).elems = [sA ((rs.take q).foldl (wStep rs[i]!) ⟨1, 0⟩)] ∧ σ.sl 18 = .int .i64 i ∧ σ.sl 17 = .int .i64 rs.length ∧ σ.sl 16 = .hd 832 1 0 rs.length false ∧ σ.sl 3 = .hd 832 1 0 rs.length false ∧ (σ.en 832).live = true ∧ (σ.en 832).gen = 1 ∧ (σ.en 832).frz = false ∧ (σ.en 832).sz = 1 ∧ (σ.en 832).elems = rs.map rO ∧ (σ.en 832).wr = ω ∧ σ.sl 5 = .hd 320 γ 0 i false ∧ (σ.en 320).live = true ∧ (σ.en 320).gen = γ ∧ (σ.en 320).frz = false ∧ (σ.en 320).sz = 2 ∧ (σ.en 320).elems = ((rs.take i).map (wSpot rs)).map sA) (fun q => rs.length - q) 0 ⟨Nat.zero_le _, by simp [put_sl, put_en, put_none, init_sl, fresh_sl, fresh_en, ent_sl, ent_en, init_en], by simp [put_sl, put_en, put_none, init_sl, fresh_sl, fresh_en, ent_sl, ent_en, init_en], by simp [put_sl, put_en, put_none, init_sl, fresh_sl, fresh_en, ent_sl, ent_en, init_en, e3], by simp [put_sl, put_en, put_none, init_sl, fresh_sl, fresh_en, ent_sl, ent_en, init_en, m6], by simp [put_sl, put_en, put_none, init_sl, fresh_sl, fresh_en, ent_sl, ent_en, init_en, hδ], by simp [put_sl, put_en, put_none, init_sl, fresh_sl, fresh_en, ent_sl, ent_en, init_en], by simp [put_sl, put_en, put_none, init_sl, fresh_sl, fresh_en, ent_sl, ent_en, init_en, hδ], by simp [put_sl, put_en, put_none, init_sl, fresh_sl, fresh_en, ent_sl, ent_en, init_en], by simp [put_sl, put_en, put_none, init_sl, fresh_sl, fresh_en, ent_sl, ent_en, init_en], by simp [put_sl, put_en, put_none, init_sl, fresh_sl, fresh_en, ent_sl, ent_en, init_en, sA], by simp [put_sl, put_en, put_none, init_sl, fresh_sl, fresh_en, ent_sl, ent_en, init_en, e18], by simp [put_sl, put_en, put_none, init_sl, fresh_sl, fresh_en, ent_sl, ent_en, init_en, e17], by simp [put_sl, put_en, put_none, init_sl, fresh_sl, fresh_en, ent_sl, ent_en, init_en, e16], by simp [put_sl, put_en, put_none, init_sl, fresh_sl, fresh_en, ent_sl, ent_en, init_en, e3], by simp [put_sl, put_en, put_none, init_sl, fresh_sl, fresh_en, ent_sl, ent_en, init_en, m1], by simp [put_sl, put_en, put_none, init_sl, fresh_sl, fresh_en, ent_sl, ent_en, init_en, m2], by simp [put_sl, put_en, put_none, init_sl, fresh_sl, fresh_en, ent_sl, ent_en, init_en, m3], by simp [put_sl, put_en, put_none, init_sl, fresh_sl, fresh_en, ent_sl, ent_en, init_en, m4], by simp [put_sl, put_en, put_none, init_sl, fresh_sl, fresh_en, ent_sl, ent_en, init_en, m5], by simp [put_sl, put_en, put_none, init_sl, fresh_sl, fresh_en, ent_sl, ent_en, init_en, m6], by simp [put_sl, put_en, put_none, init_sl, fresh_sl, fresh_en, ent_sl, ent_en, init_en, e5], by simp [put_sl, put_en, put_none, init_sl, fresh_sl, fresh_en, ent_sl, ent_en, init_en, l1], by simp [put_sl, put_en, put_none, init_sl, fresh_sl, fresh_en, ent_sl, ent_en, init_en, l2], by simp [put_sl, put_en, put_none, init_sl, fresh_sl, fresh_en, ent_sl, ent_en, init_en, l3], by simp [put_sl, put_en, put_none, init_sl, fresh_sl, fresh_en, ent_sl, ent_en, init_en, l4], by simp [put_sl, put_en, put_none, init_sl, fresh_sl, fresh_en, ent_sl, ent_en, init_en, l5]⟩ ?_
    clear e18 e17 e16 e3 m1 m2 m3 m4 m5 m6 e5 l1 l2 l3 l4 l5 hδ
    rintro q σ ⟨hq, e25, e24, e23, e7, e8, n1, n2, n3, n4, n5, e18, e17, e16, e3, m1, m2, m3, m4, m5, m6, e5, l1, l2, l3, l4, l5⟩
    have hbd := wFold_bd (r := rs[i]!) (rs.take q) ⟨1, 0⟩ 0 (fun s h => hw s (List.mem_of_mem_take h)) (by simp) (by simp) (by simp) (by rw [List.length_take]; omega)
    obtain ⟨acc, hacc⟩ : ∃ acc, (rs.take q).foldl (wStep rs[i]!) ⟨1, 0⟩ = acc := ⟨_, rfl⟩
    rw [hacc] at n5 hbd
    rw [List.length_take] at hbd
    by_cases hlt2 : q < rs.length
    · have g0 : ((q : Int) < rs.length) = True := eq_true (by omega)
      have g1 : (q < rs.length) = True := eq_true (by omega)
      have hmq : rs[q]! ∈ rs := by rw [getElem!_pos rs q hlt2]; exact List.getElem_mem _
      have hwq := hw _ hmq
      obtain ⟨a0, a1, a2, b0, b1, b2⟩ := winLens hwq
      have hst : (rs.take (q + 1)).foldl (wStep rs[i]!) ⟨1, 0⟩ = wStep rs[i]! acc rs[q]! := by rw [take_next rs q hlt2, List.foldl_append, hacc]; rfl
      simp only [vmA, Nat.reduceEqDiff, reduceIte, Nat.reduceAdd, Nat.reduceBEq, reduceCtorEq, Nat.reduceLT, Int.reduceLE, Int.reduceLT, Int.reduceEq, Nat.reduceMul, Nat.reduceLeDiff, e25, e24, e23, e7, e8, n1, n2, n3, n4, n5, e18, e17, e16, e3, m1, m2, m3, m4, m5, m6, e5, l1, l2, l3, l4, l5, List.length_map, rO, vA, sA, f0, f1, g0, g1, a0, a1, a2, b0, b1, b2, c0, c1, c2, d0, d1, d2, Int.toNat_zero, Int.toNat_one, vEq_bool]
      refine ⟨fun hne => ?_, fun heq => ?_⟩
      · rw [wStep, if_neg hne] at hst
        rw [wr (by omega)]
        exact ⟨q + 1, ⟨by omega, leafJ (by omega), by rw [hst]⟩, by omega⟩
      · rw [wStep, if_pos heq] at hst
        refine callD (f16 rs[q]![1]! rs[i]![1]!) ?_
        simp only [vmA, Nat.reduceEqDiff, reduceIte, Nat.reduceAdd, Nat.reduceBEq, reduceCtorEq, Nat.reduceLT, Int.reduceLE, Int.reduceLT, Int.reduceEq, Nat.reduceMul, Nat.reduceLeDiff, e25, e24, e23, e7, e8, n1, n2, n3, n4, n5, e18, e17, e16, e3, m1, m2, m3, m4, m5, m6, e5, l1, l2, l3, l4, l5, List.length_map, rO, vA, sA, f0, f1, g0, g1, a0, a1, a2, b0, b1, b2, c0, c1, c2, d0, d1, d2, Int.toNat_zero, Int.toNat_one]
        have hsum : IntKind.i64.wrap (acc.s + rs[q]![2]!.n) = if rs[q]![2]!.k = 1 then IntKind.i64.wrap (acc.s + rs[q]![2]!.n) else acc.s := by
          split
          · rfl
          · rename_i h
            rw [hwq.sum.2 h, Int.add_zero, wr (by omega)]
        rw [← hsum] at hst
        refine ⟨fun hneg => callD (f16 rs[q]![1]! rs[i]![1]!) ?_, fun hpos => callD (f16 rs[q]![1]! rs[i]![1]!) ?_⟩
        · simp only [vmA, Nat.reduceEqDiff, reduceIte, Nat.reduceAdd, Nat.reduceBEq, reduceCtorEq, Nat.reduceLT, Int.reduceLE, Int.reduceLT, Int.reduceEq, Nat.reduceMul, Nat.reduceLeDiff, e25, e24, e23, e7, e8, n1, n2, n3, n4, n5, e18, e17, e16, e3, m1, m2, m3, m4, m5, m6, e5, l1, l2, l3, l4, l5, List.length_map, rO, vA, sA, f0, f1, g0, g1, a0, a1, a2, b0, b1, b2, c0, c1, c2, d0, d1, d2, Int.toNat_zero, Int.toNat_one, show Int.toNat 2 = 2 from rfl]
          refine ⟨fun hle => ?_, fun hgt => absurd hgt (by omega)⟩
          rw [if_pos hneg, if_pos hle] at hst
          rw [wr (x := (q : Int) + 1) (by omega)]
          exact ⟨q + 1, ⟨by omega, leafJ (by omega), by rw [hst]⟩, by omega⟩
        · simp only [vmA, Nat.reduceEqDiff, reduceIte, Nat.reduceAdd, Nat.reduceBEq, reduceCtorEq, Nat.reduceLT, Int.reduceLE, Int.reduceLT, Int.reduceEq, Nat.reduceMul, Nat.reduceLeDiff, e25, e24, e23, e7, e8, n1, n2, n3, n4, n5, e18, e17, e16, e3, m1, m2, m3, m4, m5, m6, e5, l1, l2, l3, l4, l5, List.length_map, rO, vA, sA, f0, f1, g0, g1, a0, a1, a2, b0, b1, b2, c0, c1, c2, d0, d1, d2, Int.toNat_zero, Int.toNat_one, show Int.toNat 2 = 2 from rfl]
          refine ⟨fun hle => ?_, fun hgt => ?_⟩
          · rw [if_neg hpos, if_pos hle] at hst
            rw [wr (x := (q : Int) + 1) (by omega)]
            exact ⟨q + 1, ⟨by omega, leafJ (by omega), by rw [hst]⟩, by omega⟩
          · rw [if_neg hpos, if_neg hgt] at hst
            rw [wr (by omega)]
            exact ⟨q + 1, ⟨by omega, leafJ (by omega), by rw [hst]⟩, by omega⟩
    · have g0 : ((q : Int) < rs.length) = False := eq_false (by omega)
      have hti : (rs.take i).length = i := by simp; omega
      obtain rfl : q = rs.length := by omega
      rw [List.take_length] at hacc
      simp only [vmA, Nat.reduceEqDiff, reduceIte, Nat.reduceAdd, Nat.reduceBEq, reduceCtorEq, Nat.reduceLT, Int.reduceLE, Int.reduceLT, Int.reduceEq, Nat.reduceMul, Nat.reduceLeDiff, e25, e24, e23, e7, e8, n1, n2, n3, n4, n5, e18, e17, e16, e3, m1, m2, m3, m4, m5, m6, e5, l1, l2, l3, l4, l5, List.length_map, rO, vA, sA, g0, hti]
      have hel : ((rs.take i).map (wSpot rs)).map sA ++ [AV.agg [.int .i64 acc.r, .int .i64 acc.s]] = ((rs.take (i + 1)).map (wSpot rs)).map sA := by
        rw [take_next rs i hlt, List.map_append, List.map_append, ← hacc]; rfl
      rw [hel, wr (by omega)]
      exact ⟨⟨by omega, by omega⟩, (i + 1, γ + 1), ⟨by dsimp only; omega, leafJ (by dsimp only; omega), rfl, rfl, rfl⟩, by dsimp only; omega⟩
  · have f0 : ((i : Int) < rs.length) = False := eq_false (by omega)
    obtain rfl : i = rs.length := by omega
    rw [List.take_length] at l5
    have hlm : (((rs.map (wSpot rs)).map sA).take rs.length) = (rs.map (wSpot rs)).map sA := List.take_of_length_le (by simp)
    simp only [vmA, Nat.reduceEqDiff, reduceIte, Nat.reduceAdd, Nat.reduceBEq, reduceCtorEq, Nat.reduceLT, Int.reduceLE, Int.reduceLT, Int.reduceEq, Nat.reduceMul, Nat.reduceLeDiff, e18, e17, e16, e3, m1, m2, m3, m4, m5, m6, e5, l1, l2, l3, l4, l5, List.length_map, rO, hδ, f0, hlm, map_froize_sA]
    refine callD (f17 (rs.map (wSpot rs)) false (by simp; omega)) ?_
    simp only [vmA, Nat.reduceEqDiff, reduceIte, Nat.reduceAdd, Nat.reduceBEq, reduceCtorEq, Nat.reduceLT, Int.reduceLE, Int.reduceLT, Int.reduceEq, Nat.reduceMul, Nat.reduceLeDiff, behind_nf, hasFroL_sA, List.length_map]
    refine hQ' _ ?_
    simp only [vmA, Nat.reduceEqDiff, reduceIte, Nat.reduceAdd, Nat.reduceBEq, reduceCtorEq, Nat.reduceLT, Int.reduceLE, Int.reduceLT, Int.reduceEq, Nat.reduceMul, Nat.reduceLeDiff, Try.f6, retG, resL, St.closeVs, St.closeV, List.length_map, hlm]
