/- WALK of functions of the seat, or plain laws for it: each theorem f<k> says what function k returns, for every world and all arguments that stand for the values named. Conditions: none but those ahead of each theorem. -/
import Derived.Test.YtboeimkfcfdabaaWE1
import Derived.Test.YtboeimkfcfdabaaWD1
open Go Go.Vm Go.Proofs
set_option maxRecDepth 100000
set_option maxHeartbeats 8000000
set_option linter.unusedSimpArgs false
set_option linter.unusedVariables false
def vEq (v w : Val) : Prop := v.k = w.k ∧ v.n = w.n ∧ v.s = w.s
instance (v w : Val) : Decidable (vEq v w) := by unfold vEq; exact inferInstance
theorem vEq_bool (v w : Val) : (decide (v.k = w.k) && (decide (v.n = w.n) && decide (v.s = w.s))) = decide (vEq v w) := by
  rw [← Bool.decide_and, ← Bool.decide_and]; rfl
theorem winLens {r : List Val} (h : winP r) : ((0 : Int) < r.length) = True ∧ ((1 : Int) < r.length) = True ∧ ((2 : Int) < r.length) = True ∧ (0 < r.length) = True ∧ (1 < r.length) = True ∧ (2 < r.length) = True := by
  have := h.1
  exact ⟨eq_true (by omega), eq_true (by omega), eq_true (by omega), eq_true (by omega), eq_true (by omega), eq_true (by omega)⟩
/-- One row's part in a window's value. -/
def wStep (r : List Val) (a : Spt) (s : List Val) : Spt := if vEq s[0]! r[0]! then ⟨if vCmp s[1]! r[1]! < 0 then IntKind.i64.wrap (a.r + 1) else a.r, if vCmp s[1]! r[1]! ≤ 0 then (if s[2]!.k = 1 then IntKind.i64.wrap (a.s + s[2]!.n) else a.s) else a.s⟩ else a
def wSpot (rs : List (List Val)) (r : List Val) : Spt := rs.foldl (wStep r) ⟨1, 0⟩
theorem exP_imp {α : Type} {o : Option α} {K K' : α → Prop} (h : ∀ a, K a → K' a) : exP o K → exP o K' := by
  cases o with
  | none => rw [exP_none]; exact False.elim
  | some a => rw [exP_some, exP_some]; exact h a
theorem WinR.win {ws : List (List Val)} {ys : List (Nat × List Val)} (h : WinR ws ys) : ∀ r ∈ ys.map Prod.snd, winP r := by
  rcases h with ⟨hw, hp, _⟩ | ⟨_, rfl⟩
  · intro r hr
    obtain ⟨z, hz, rfl⟩ := List.mem_map.1 hr
    exact hw.2 _ (tagL_mem (hp.mem_iff.1 hz))
  · simp
theorem f7 (ws : List (List Val)) (c : Bool) (hl : ws.length ≤ 1048576) (hr : ∀ w ∈ ws, w.length ≤ 1048576) (hs : ∀ r ∈ ws, okR r) : FxR 7 [.fro none c (ws.map rA)] fun r l => (∃ ys, WinR ws ys ∧ r = .own 2 ((((ys.map Prod.snd).map (wSpot (ys.map Prod.snd)))).map sA)) ∧ l = .und := by
  refine fn_ofX ⟨false, [], [(15, [], [])]⟩ Try.func7 (by kernel_rfl) rfl (by kernel_rfl) (by kernel_rfl) (Nat.le_of_ble_eq_true rfl) rfl fun Q hQ => ?_
  simp only [tr_seq, tr_block, tr_loop, tr_cond, tr_skip, tr_exit, tr_ret, tr_reg]
  rw [tr_calm (by kernel_rfl), tr_calm (by kernel_rfl), tr_cut 8 (by kernel_rfl)]
  simp only [vmA, Nat.reduceEqDiff, reduceIte, Nat.reduceAdd, Nat.reduceBEq, reduceCtorEq, Nat.reduceLT, Int.reduceLE, Int.reduceLT, Int.reduceEq, Nat.reduceMul, Nat.reduceLeDiff]
  refine callR (f10 ws c hl hr hs) ?_
  rintro _ _ ⟨⟨ys, hy, rfl⟩, rfl⟩
  rw [rT_snd]
  have hsub := hy.sub
  have hyl : ys.length = (ys.map Prod.snd).length := by rw [List.length_map]
  have hw : ∀ r ∈ ys.map Prod.snd, winP r := hy.win
  simp only [vmA, Nat.reduceEqDiff, reduceIte, Nat.reduceAdd, Nat.reduceBEq, reduceCtorEq, Nat.reduceLT, Int.reduceLE, Int.reduceLT, Int.reduceEq, Nat.reduceMul, Nat.reduceLeDiff, behind_nf, hasFroL_rO, List.length_map]
  rw [hyl]
  refine Exists.elim (show ∃ rs : List (List Val), rs = ys.map Prod.snd from ⟨_, rfl⟩) fun rs hrs => ?_
  have hQ' : ∀ σ, (exP (retG (CC ⟨false, [], [(15, [], [])]⟩) σ Try.f7.results.toList) fun p => p.1 = .own 2 ((rs.map (wSpot rs)).map sA) ∧ AV.und = AV.und) → Q Ex.ret σ := fun σ h => hQ σ (by
    refine exP_imp ?_ h
    rintro p ⟨hp, _⟩
    exact ⟨⟨ys, hy, by rw [hp, hrs]⟩, rfl⟩)
  rw [← hrs] at hsub hw ⊢
  clear hyl hrs hy hQ
  obtain ⟨k1, k2⟩ := hsub
  have k3 : ∀ r ∈ rs, okR r := fun r h => hs r (k2 r h)
  refine WT_loopR (fun (p : Nat × Nat) σ => p.1 ≤ rs.length ∧ σ.sl 5 = .int .i64 p.1 ∧ σ.sl 4 = .hd 704 1 0 rs.length false ∧ (σ.en 704).live = true ∧ (σ.en 704).gen = 1 ∧ (σ.en 704).frz = false ∧ (σ.en 704).sz = 1 ∧ (σ.en 704).elems = rs.map rO ∧ σ.sl 3 = .hd 192 p.2 0 p.1 false ∧ (σ.en 192).live = true ∧ (σ.en 192).gen = p.2 ∧ (σ.en 192).frz = false ∧ (σ.en 192).sz = 2 ∧ (σ.en 192).elems = ((rs.take p.1).map (wSpot rs)).map sA) (fun p => rs.length - p.1) 3 ?_ ?_
  · simp only [vmA, Nat.reduceEqDiff, reduceIte, Nat.reduceAdd, Nat.reduceBEq, reduceCtorEq, Nat.reduceLT, Int.reduceLE, Int.reduceLT, Int.reduceEq, Nat.reduceMul, Nat.reduceLeDiff, reown]
    exact ⟨(0, 1), Nat.zero_le _, rfl, rfl, rfl, rfl⟩
  rintro ⟨i, γ⟩ σ ⟨hi, e5, e4, m1, m2, m3, m4, m5, e3, l1, l2, l3, l4, l5⟩
  dsimp only at hi e5 e4 m1 m2 m3 m4 m5 e3 l1 l2 l3 l4 l5
  obtain ⟨δ, hδ⟩ : ∃ δ, (σ.en 384).gen + 1 = δ := ⟨_, rfl⟩
  simp only [vmA, Nat.reduceEqDiff, reduceIte, Nat.reduceAdd, Nat.reduceBEq, reduceCtorEq, Nat.reduceLT, Int.reduceLE, Int.reduceLT, Int.reduceEq, Nat.reduceMul, Nat.reduceLeDiff, e5, e4, m1, m2, m3, m4, m5, e3, l1, l2, l3, l4, l5, List.length_map, rO, hδ]
  refine ⟨fun hlt => ?_, fun hge => ?_⟩
  · have hi' : i < rs.length := by omega
    have hwi := hw rs[i]! (by rw [getElem!_pos rs i hi']; exact List.getElem_mem _)
    refine WT_loop (fun (q : Nat) σ => q ≤ rs.length ∧ σ.sl 7 = .int .i64 q ∧ σ.sl 6 = .ptr 384 δ 0 0 ∧ (σ.en 384).live = true ∧ (σ.en 384).gen = δ ∧ (σ.en 384).frz = false ∧ (σ.en 384).sz = 2 ∧ (σ.en 384).elems = [sA ((rs.take q).foldl (wStep rs[i]!) ⟨1, 0⟩)] ∧ σ.sl 5 = .int .i64 i ∧ σ.sl 4 = .hd 704 1 0 rs.length false ∧ (σ.en 704).live = true ∧ (σ.en 704).gen = 1 ∧ (σ.en 704).frz = false ∧ (σ.en 704).sz = 1 ∧ (σ.en 704).elems = rs.map rO ∧ σ.sl 3 = .hd 192 γ 0 i false ∧ (σ.en 192).live = true ∧ (σ.en 192).gen = γ ∧ (σ.en 192).frz = false ∧ (σ.en 192).sz = 2 ∧ (σ.en 192).elems = ((rs.take i).map (wSpot rs)).map sA) (fun q => rs.length - q) 0 ⟨Nat.zero_le _, by simp [put_sl, put_en, put_none, init_sl, fresh_sl, fresh_en, ent_sl, ent_en, init_en], by simp [put_sl, put_en, put_none, init_sl, fresh_sl, fresh_en, ent_sl, ent_en, init_en, hδ], by simp [put_sl, put_en, put_none, init_sl, fresh_sl, fresh_en, ent_sl, ent_en, init_en], by simp [put_sl, put_en, put_none, init_sl, fresh_sl, fresh_en, ent_sl, ent_en, init_en, hδ], by simp [put_sl, put_en, put_none, init_sl, fresh_sl, fresh_en, ent_sl, ent_en, init_en], by simp [put_sl, put_en, put_none, init_sl, fresh_sl, fresh_en, ent_sl, ent_en, init_en], by simp [put_sl, put_en, put_none, init_sl, fresh_sl, fresh_en, ent_sl, ent_en, init_en, sA], by simp [put_sl, put_en, put_none, init_sl, fresh_sl, fresh_en, ent_sl, ent_en, init_en, e5], by simp [put_sl, put_en, put_none, init_sl, fresh_sl, fresh_en, ent_sl, ent_en, init_en, e4], by simp [put_sl, put_en, put_none, init_sl, fresh_sl, fresh_en, ent_sl, ent_en, init_en, m1], by simp [put_sl, put_en, put_none, init_sl, fresh_sl, fresh_en, ent_sl, ent_en, init_en, m2], by simp [put_sl, put_en, put_none, init_sl, fresh_sl, fresh_en, ent_sl, ent_en, init_en, m3], by simp [put_sl, put_en, put_none, init_sl, fresh_sl, fresh_en, ent_sl, ent_en, init_en, m4], by simp [put_sl, put_en, put_none, init_sl, fresh_sl, fresh_en, ent_sl, ent_en, init_en, m5], by simp [put_sl, put_en, put_none, init_sl, fresh_sl, fresh_en, ent_sl, ent_en, init_en, e3], by simp [put_sl, put_en, put_none, init_sl, fresh_sl, fresh_en, ent_sl, ent_en, init_en, l1], by simp [put_sl, put_en, put_none, init_sl, fresh_sl, fresh_en, ent_sl, ent_en, init_en, l2], by simp [put_sl, put_en, put_none, init_sl, fresh_sl, fresh_en, ent_sl, ent_en, init_en, l3], by simp [put_sl, put_en, put_none, init_sl, fresh_sl, fresh_en, ent_sl, ent_en, init_en, l4], by simp [put_sl, put_en, put_none, init_sl, fresh_sl, fresh_en, ent_sl, ent_en, init_en, l5]⟩ ?_
    clear e5 e4 m1 m2 m3 m4 m5 e3 l1 l2 l3 l4 l5 hδ
    rintro q σ ⟨hq, e7, e6, n1, n2, n3, n4, n5, e5, e4, m1, m2, m3, m4, m5, e3, l1, l2, l3, l4, l5⟩
    obtain ⟨acc, hacc⟩ : ∃ acc, (rs.take q).foldl (wStep rs[i]!) ⟨1, 0⟩ = acc := ⟨_, rfl⟩
    rw [hacc] at n5
    by_cases hlt2 : q < rs.length
    · have g0 : ((q : Int) < rs.length) = True := eq_true (by omega)
      have g1 : (q < rs.length) = True := eq_true (by omega)
      have g2 : ((i : Int) < rs.length) = True := eq_true (by omega)
      have g3 : (i < rs.length) = True := eq_true (by omega)
      have hmq : rs[q]! ∈ rs := by rw [getElem!_pos rs q hlt2]; exact List.getElem_mem _
      have hmi : rs[i]! ∈ rs := by rw [getElem!_pos rs i hi']; exact List.getElem_mem _
      have hwq := hw _ hmq
      obtain ⟨a0, a1, a2, b0, b1, b2⟩ := winLens hwq
      obtain ⟨c0, c1, c2, d0, d1, d2⟩ := winLens hwi
      have hst : (rs.take (q + 1)).foldl (wStep rs[i]!) ⟨1, 0⟩ = wStep rs[i]! acc rs[q]! := by rw [take_next rs q hlt2, List.foldl_append, hacc]; rfl
      simp only [vmA, Nat.reduceEqDiff, reduceIte, Nat.reduceAdd, Nat.reduceBEq, reduceCtorEq, Nat.reduceLT, Int.reduceLE, Int.reduceLT, Int.reduceEq, Nat.reduceMul, Nat.reduceLeDiff, e7, e6, n1, n2, n3, n4, n5, e5, e4, m1, m2, m3, m4, m5, e3, l1, l2, l3, l4, l5, List.length_map, rO, vA, sA, g0, g1, g2, g3, a0, a1, a2, b0, b1, b2, c0, c1, c2, d0, d1, d2, Int.toNat_zero, Int.toNat_one, vEq_bool]
      refine ⟨fun hne => ?_, fun heq => ?_⟩
      · rw [wStep, if_neg hne] at hst
        rw [wr (by omega)]
        exact ⟨q + 1, ⟨by omega, leafJ (by omega), by rw [hst]⟩, by omega⟩
      · rw [wStep, if_pos heq] at hst
        refine callD (f18 rs[q]![1]! rs[i]![1]! (hwq.at (by omega)) (hwi.at (by omega)) ((k3 _ hmq).at (by have := hwq.1; omega)) ((k3 _ hmi).at (by have := hwi.1; omega))) ?_
        simp only [vmA, Nat.reduceEqDiff, reduceIte, Nat.reduceAdd, Nat.reduceBEq, reduceCtorEq, Nat.reduceLT, Int.reduceLE, Int.reduceLT, Int.reduceEq, Nat.reduceMul, Nat.reduceLeDiff, e7, e6, n1, n2, n3, n4, n5, e5, e4, m1, m2, m3, m4, m5, e3, l1, l2, l3, l4, l5, List.length_map, rO, vA, sA, g0, g1, g2, g3, a0, a1, a2, b0, b1, b2, c0, c1, c2, d0, d1, d2, Int.toNat_zero, Int.toNat_one]
        refine ⟨fun hneg => ⟨fun hle => ?_, fun hgt => absurd hgt (by omega)⟩, fun hpos => ⟨fun hle => ?_, fun hgt => ?_⟩⟩
        · rw [if_pos hneg, if_pos hle] at hst
          refine callD (f19 acc.s rs[q]! false hwq) ?_
          simp only [vmA, Nat.reduceEqDiff, reduceIte, Nat.reduceAdd, Nat.reduceBEq, reduceCtorEq, Nat.reduceLT, Int.reduceLE, Int.reduceLT, Int.reduceEq, Nat.reduceMul, Nat.reduceLeDiff, e7, e6, n1, n2, n3, n4, n5, e5, e4, m1, m2, m3, m4, m5, e3, l1, l2, l3, l4, l5, List.length_map, rO, vA, sA, g0, g1, g2, g3]
          rw [wr (x := (q : Int) + 1) (by omega)]
          exact ⟨q + 1, ⟨by omega, leafJ (by omega), by rw [hst]⟩, by omega⟩
        · rw [if_neg hpos, if_pos hle] at hst
          refine callD (f19 acc.s rs[q]! false hwq) ?_
          simp only [vmA, Nat.reduceEqDiff, reduceIte, Nat.reduceAdd, Nat.reduceBEq, reduceCtorEq, Nat.reduceLT, Int.reduceLE, Int.reduceLT, Int.reduceEq, Nat.reduceMul, Nat.reduceLeDiff, e7, e6, n1, n2, n3, n4, n5, e5, e4, m1, m2, m3, m4, m5, e3, l1, l2, l3, l4, l5, List.length_map, rO, vA, sA, g0, g1, g2, g3]
          rw [wr (by omega)]
          exact ⟨q + 1, ⟨by omega, leafJ (by omega), by rw [hst]⟩, by omega⟩
        · rw [if_neg hpos, if_neg hgt] at hst
          rw [wr (by omega)]
          exact ⟨q + 1, ⟨by omega, leafJ (by omega), by rw [hst]⟩, by omega⟩
    · have g0 : ((q : Int) < rs.length) = False := eq_false (by omega)
      have hti : (rs.take i).length = i := by simp; omega
      obtain rfl : q = rs.length := by omega
      rw [List.take_length] at hacc
      simp only [vmA, Nat.reduceEqDiff, reduceIte, Nat.reduceAdd, Nat.reduceBEq, reduceCtorEq, Nat.reduceLT, Int.reduceLE, Int.reduceLT, Int.reduceEq, Nat.reduceMul, Nat.reduceLeDiff, e7, e6, n1, n2, n3, n4, n5, e5, e4, m1, m2, m3, m4, m5, e3, l1, l2, l3, l4, l5, List.length_map, rO, vA, sA, g0, reown, hti]
      have hel : ((rs.take i).map (wSpot rs)).map sA ++ [AV.agg [.int .i64 acc.r, .int .i64 acc.s]] = ((rs.take (i + 1)).map (wSpot rs)).map sA := by
        rw [take_next rs i hi', List.map_append, List.map_append, ← hacc]; rfl
      have hll : (((rs.take (i + 1)).map (wSpot rs)).map sA).length = i + 1 := by simp; omega
      rw [hel, List.take_of_length_le (l := ((rs.take (i + 1)).map (wSpot rs)).map sA) (by omega), hll, wr (by omega)]
      exact ⟨⟨by omega, by omega⟩, by omega, (i + 1, γ + 1 + 1), ⟨by dsimp only; omega, leafJ (by dsimp only; omega), rfl, rfl, rfl⟩, by dsimp only; omega⟩
  · refine hQ' _ ?_
    simp only [vmA, Nat.reduceEqDiff, reduceIte, Nat.reduceAdd, Nat.reduceBEq, reduceCtorEq, Nat.reduceLT, Int.reduceLE, Int.reduceLT, Int.reduceEq, Nat.reduceMul, Nat.reduceLeDiff, Try.f7, retG, resL, St.closeVs, St.closeV, e3, l1, l2, l3, l4, l5]
    have : i = rs.length := by omega
    subst this
    refine ⟨by simp, ?_⟩
    rw [List.take_length, List.take_of_length_le (by simp)]
