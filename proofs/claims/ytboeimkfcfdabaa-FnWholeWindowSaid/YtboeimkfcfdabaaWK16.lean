/- WALK of functions of the seat, or plain laws for it: each theorem f<k> says what function k returns, for every world and all arguments that stand for the values named. Conditions: none but those ahead of each theorem. -/
import Derived.Test.YtboeimkfcfdabaaWK15
import Derived.Test.YtboeimkfcfdabaaWV3
import Derived.Test.YtboeimkfcfdabaaWC2
import Derived.Test.YtboeimkfcfdabaaWU4
open Go Go.Vm Go.Proofs
set_option maxRecDepth 100000
set_option maxHeartbeats 8000000
set_option linter.unusedSimpArgs false
set_option linter.unusedVariables false
theorem f3 (xs : List UInt8) (hl : xs.length ≤ 9223372036854775807) : Fx 3 [.fro none false (xs.map bA)] (.bool true) := by
  refine fn_of ⟨false, [], []⟩ Try.func3 (by kernel_rfl) rfl (by kernel_rfl) (by kernel_rfl) (Nat.le_of_ble_eq_true rfl) rfl fun Q hQ => ?_
  simp only [vmA, Nat.reduceEqDiff, reduceIte, Nat.reduceAdd, Nat.reduceBEq, reduceCtorEq, Nat.reduceLT, Int.reduceLE, Int.reduceLT, Int.reduceEq, Nat.reduceMul, Nat.reduceLeDiff, List.length_map]
  refine ⟨fun h => ?_, fun h => callR (f4 xs hl) ?_⟩
  · (refine hQ _ ?_; simp only [vmA, Nat.reduceEqDiff, reduceIte, Nat.reduceAdd, Nat.reduceBEq, reduceCtorEq, Nat.reduceLT, Int.reduceLE, Int.reduceLT, Int.reduceEq, Nat.reduceMul, Nat.reduceLeDiff, Try.f3, retG, resL, St.closeVs, St.closeV])
  rintro _ _ ⟨⟨rs, rfl, hl2, hD⟩, rfl⟩
  simp only [vmA, Nat.reduceEqDiff, reduceIte, Nat.reduceAdd, Nat.reduceBEq, reduceCtorEq, Nat.reduceLT, Int.reduceLE, Int.reduceLT, Int.reduceEq, Nat.reduceMul, Nat.reduceLeDiff, List.length_map, hasFroL_rO, behind_nf, hasFro, map_froize_rO]
  have hok : ∀ r ∈ rs, okR r := fun r hr => ⟨by have := (hD r hr).1; omega, fun v hv => by have := (hD r hr).2 v hv; unfold okV; omega⟩
  have hrl : ∀ r ∈ rs, r.length ≤ 1048576 := fun r hr => by have := (hD r hr).1; omega
  refine callR (f5 rs false (by omega) hrl hok) ?_
  rintro _ _ ⟨⟨ys, hw, rfl⟩, rfl⟩
  have hT : ∀ l : List (Nat × List Val), l.map rT = (l.map Prod.snd).map rO := fun l => by rw [List.map_map]; rfl
  rw [hT]
  simp only [vmA, Nat.reduceEqDiff, reduceIte, Nat.reduceAdd, Nat.reduceBEq, reduceCtorEq, Nat.reduceLT, Int.reduceLE, Int.reduceLT, Int.reduceEq, Nat.reduceMul, Nat.reduceLeDiff, List.length_map, hasFroL_rO, behind_nf, hasFro, map_froize_rO]
  refine callR (f6 rs false (by omega) hrl hok) ?_
  rintro _ _ ⟨⟨ys2, hw2, rfl⟩, rfl⟩
  obtain rfl := hw.uniq hw2
  simp only [vmA, Nat.reduceEqDiff, reduceIte, Nat.reduceAdd, Nat.reduceBEq, reduceCtorEq, Nat.reduceLT, Int.reduceLE, Int.reduceLT, Int.reduceEq, Nat.reduceMul, Nat.reduceLeDiff, List.length_map, hasFroL_sA, behind_nf, hasFro, map_froize_rO]
  refine callR (f7 rs false (by omega) hrl hok) ?_
  rintro _ _ ⟨⟨ys3, hw3, rfl⟩, rfl⟩
  obtain rfl := hw.uniq hw3
  have hu : ∀ l, WinR rs l → l.map rT = (ys.map Prod.snd).map rO := fun l hl => by rw [hl.uniq hw]; exact hT ys
  have hW : ∀ g ∈ gRows rs [0] 2 2, ∀ last, allP c3 rs → lastAt (ys.map Prod.snd) g[0]! (ys.map Prod.snd).length last → g[1]!.k = 1 → 0 ≤ last ∧ (wSpot (ys.map Prod.snd) (ys.map Prod.snd)[last.toNat]!).s = g[1]!.n := fun g hg last ha hL h1 => whole ha hl2 hw hg hL h1
  have hzw := hw.win
  have hzl := hw.len
  have hln : ys.length = (ys.map Prod.snd).length := by simp
  simp only [hln] at *
  generalize ys.map Prod.snd = zs at *
  have hgl : ∀ g ∈ gRows rs [0] 2 2, g.length = 2 := fun g hg => by
    obtain ⟨k, hk, rfl⟩ := List.mem_map.1 hg
    have := gKey_len k hk
    simp [gRow, this]
  have hGl : (gRows rs [0] 2 2).length ≤ 12 := by
    have := onceR_len (rs.map fun r => takeBy r [0]) _ (Nat.le_refl _)
    rw [List.take_length, List.length_map] at this
    unfold gRows gKeys
    rw [List.length_map]
    omega
  simp only [vmA, Nat.reduceEqDiff, reduceIte, Nat.reduceAdd, Nat.reduceBEq, reduceCtorEq, Nat.reduceLT, Int.reduceLE, Int.reduceLT, Int.reduceEq, Nat.reduceMul, Nat.reduceLeDiff, List.length_map, hasFroL_sA, behind_nf, hasFro, map_froize_rO]
  refine callD (f8 c3 rs [0] 2 2 true false true (by decide) (by omega) (by decide) hok) ?_
  have hgR : ∃ G : List (List Val), gR c3 rs [0] 2 2 = G ∧ (gI c3 rs [0] 2 2 = .own 1 (G.map rO) ∧ allP c3 rs ∧ G = gRows rs [0] 2 2 ∨ gI c3 rs [0] 2 2 = .fro none true [] ∧ G = []) := by
    refine ⟨_, rfl, ?_⟩
    rw [gI_eq]
    unfold gR
    by_cases hP : toldP c3 [0] 2 2 ∧ rs.length ≤ 100 ∧ allP c3 rs
    · rw [if_pos hP, if_pos hP]
      exact .inl ⟨rfl, hP.2.2, rfl⟩
    · rw [if_neg hP, if_neg hP]
      exact .inr ⟨rfl, rfl⟩
  obtain ⟨G, hG, ⟨hI, hA, hGR⟩ | ⟨hI, rfl⟩⟩ := hgR
  · rw [hI]
    have hW2 : ∀ g ∈ G, ∀ last, lastAt zs g[0]! zs.length last → g[1]!.k = 1 → 0 ≤ last ∧ (wSpot zs zs[last.toNat]!).s = g[1]!.n := fun g hg last hL h1 => hW g (hGR ▸ hg) last hA hL h1
    rw [← hGR] at hgl hGl
    clear hGR hW
    simp only [vmA, Nat.reduceEqDiff, reduceIte, Nat.reduceAdd, Nat.reduceBEq, reduceCtorEq, Nat.reduceLT, Int.reduceLE, Int.reduceLT, Int.reduceEq, Nat.reduceMul, Nat.reduceLeDiff, List.length_map, hasFroL_rO, behind_nf, hasFro, map_froize_rO]
    refine callR (f10 rs false (by omega) hrl hok) ?_
    rintro _ _ ⟨⟨ys4, hw4, rfl⟩, rfl⟩
    rw [hu ys4 hw4]
    simp only [vmA, Nat.reduceEqDiff, reduceIte, Nat.reduceAdd, Nat.reduceBEq, reduceCtorEq, Nat.reduceLT, Int.reduceLE, Int.reduceLT, Int.reduceEq, Nat.reduceMul, Nat.reduceLeDiff, List.length_map, hasFroL_rO, behind_nf, hasFro, map_froize_rO, take_map_len]
    refine callD (f9 zs false false (by omega) (fun r hr => by have := (hzw r hr).1; omega)) ?_
    simp only [vmA, Nat.reduceEqDiff, reduceIte, Nat.reduceAdd, Nat.reduceBEq, reduceCtorEq, Nat.reduceLT, Int.reduceLE, Int.reduceLT, Int.reduceEq, Nat.reduceMul, Nat.reduceLeDiff, List.length_map, hasFroL_rO, behind_nf, hasFro, map_froize_rO, take_map_len]
    refine callD (f11 c3 rs [0] 2 2 true false true (by decide) (by omega) (by decide) hok) ?_
    rw [hG]
    simp only [vmA, Nat.reduceEqDiff, reduceIte, Nat.reduceAdd, Nat.reduceBEq, reduceCtorEq, Nat.reduceLT, Int.reduceLE, Int.reduceLT, Int.reduceEq, Nat.reduceMul, Nat.reduceLeDiff, List.length_map, hasFroL_rO, behind_nf, hasFro, map_froize_rO, take_map_len]
    refine callD (f9 G false false (by omega) (fun r hr => by have := hgl r hr; omega)) ?_
    simp only [vmA, Nat.reduceEqDiff, reduceIte, Nat.reduceAdd, Nat.reduceBEq, reduceCtorEq, Nat.reduceLT, Int.reduceLE, Int.reduceLT, Int.reduceEq, Nat.reduceMul, Nat.reduceLeDiff, List.length_map, hasFroL_rO, behind_nf, hasFro, map_froize_rO, take_map_len]
    refine WT_loop (fun (i : Nat) σ => (i ≤ G.length) ∧ σ.sl 8 = .int .i64 i ∧ σ.sl 4 = .hd 1088 1 0 zs.length false ∧ (σ.en 1088).live = true ∧ (σ.en 1088).gen = 1 ∧ (σ.en 1088).frz = false ∧ (σ.en 1088).sz = 1 ∧ (σ.en 1088).elems = zs.map rO ∧ σ.sl 5 = .hd 1216 1 0 zs.length false ∧ (σ.en 1216).live = true ∧ (σ.en 1216).gen = 1 ∧ (σ.en 1216).frz = false ∧ (σ.en 1216).sz = 2 ∧ (σ.en 1216).elems = (zs.map (wSpot zs)).map sA ∧ σ.sl 7 = .hd 2560 1 0 G.length false ∧ (σ.en 2560).live = true ∧ (σ.en 2560).gen = 1 ∧ (σ.en 2560).frz = false ∧ (σ.en 2560).sz = 1 ∧ (σ.en 2560).elems = G.map rO) (fun i => G.length - i) (0) ⟨Nat.zero_le _, by simp [put_sl, put_en, put_none, init_sl, fresh_sl, fresh_en, ent_sl, ent_en, init_en], by simp [put_sl, put_en, put_none, init_sl, fresh_sl, fresh_en, ent_sl, ent_en, init_en], by simp [put_sl, put_en, put_none, init_sl, fresh_sl, fresh_en, ent_sl, ent_en, init_en], by simp [put_sl, put_en, put_none, init_sl, fresh_sl, fresh_en, ent_sl, ent_en, init_en], by simp [put_sl, put_en, put_none, init_sl, fresh_sl, fresh_en, ent_sl, ent_en, init_en], by simp [put_sl, put_en, put_none, init_sl, fresh_sl, fresh_en, ent_sl, ent_en, init_en], by simp [put_sl, put_en, put_none, init_sl, fresh_sl, fresh_en, ent_sl, ent_en, init_en], by simp [put_sl, put_en, put_none, init_sl, fresh_sl, fresh_en, ent_sl, ent_en, init_en], by simp [put_sl, put_en, put_none, init_sl, fresh_sl, fresh_en, ent_sl, ent_en, init_en], by simp [put_sl, put_en, put_none, init_sl, fresh_sl, fresh_en, ent_sl, ent_en, init_en], by simp [put_sl, put_en, put_none, init_sl, fresh_sl, fresh_en, ent_sl, ent_en, init_en], by simp [put_sl, put_en, put_none, init_sl, fresh_sl, fresh_en, ent_sl, ent_en, init_en], by simp [put_sl, put_en, put_none, init_sl, fresh_sl, fresh_en, ent_sl, ent_en, init_en], by simp [put_sl, put_en, put_none, init_sl, fresh_sl, fresh_en, ent_sl, ent_en, init_en], by simp [put_sl, put_en, put_none, init_sl, fresh_sl, fresh_en, ent_sl, ent_en, init_en], by simp [put_sl, put_en, put_none, init_sl, fresh_sl, fresh_en, ent_sl, ent_en, init_en], by simp [put_sl, put_en, put_none, init_sl, fresh_sl, fresh_en, ent_sl, ent_en, init_en], by simp [put_sl, put_en, put_none, init_sl, fresh_sl, fresh_en, ent_sl, ent_en, init_en], by simp [put_sl, put_en, put_none, init_sl, fresh_sl, fresh_en, ent_sl, ent_en, init_en]⟩ ?_
    rintro i σ ⟨hi, e8, e4, m1088a, m1088b, m1088c, m1088d, m1088e, e5, m1216a, m1216b, m1216c, m1216d, m1216e, e7, m2560a, m2560b, m2560c, m2560d, m2560e⟩
    simp only [vmA, Nat.reduceEqDiff, reduceIte, Nat.reduceAdd, Nat.reduceBEq, reduceCtorEq, Nat.reduceLT, Int.reduceLE, Int.reduceLT, Int.reduceEq, Nat.reduceMul, Nat.reduceLeDiff, e8, e4, m1088a, m1088b, m1088c, m1088d, m1088e, e5, m1216a, m1216b, m1216c, m1216d, m1216e, e7, m2560a, m2560b, m2560c, m2560d, m2560e, List.length_map]
    refine ⟨fun hlt => ?_, fun hge => callD f12 ?_⟩
    rotate_left
    · simp only [vmA, Nat.reduceEqDiff, reduceIte, Nat.reduceAdd, Nat.reduceBEq, reduceCtorEq, Nat.reduceLT, Int.reduceLE, Int.reduceLT, Int.reduceEq, Nat.reduceMul, Nat.reduceLeDiff, e8, e4, m1088a, m1088b, m1088c, m1088d, m1088e, e5, m1216a, m1216b, m1216c, m1216d, m1216e, e7, m2560a, m2560b, m2560c, m2560d, m2560e]
      (refine hQ _ ?_; simp only [vmA, Nat.reduceEqDiff, reduceIte, Nat.reduceAdd, Nat.reduceBEq, reduceCtorEq, Nat.reduceLT, Int.reduceLE, Int.reduceLT, Int.reduceEq, Nat.reduceMul, Nat.reduceLeDiff, Try.f3, retG, resL, St.closeVs, St.closeV])
    refine WT_loop (fun (zz : Nat × Int) σ => (zz.1 ≤ zs.length ∧ lastAt zs G[i]![0]! zz.1 zz.2) ∧ σ.sl 10 = .int .i64 zz.1 ∧ σ.sl 9 = .int .i64 zz.2 ∧ σ.sl 8 = .int .i64 i ∧ σ.sl 4 = .hd 1088 1 0 zs.length false ∧ (σ.en 1088).live = true ∧ (σ.en 1088).gen = 1 ∧ (σ.en 1088).frz = false ∧ (σ.en 1088).sz = 1 ∧ (σ.en 1088).elems = zs.map rO ∧ σ.sl 5 = .hd 1216 1 0 zs.length false ∧ (σ.en 1216).live = true ∧ (σ.en 1216).gen = 1 ∧ (σ.en 1216).frz = false ∧ (σ.en 1216).sz = 2 ∧ (σ.en 1216).elems = (zs.map (wSpot zs)).map sA ∧ σ.sl 7 = .hd 2560 1 0 G.length false ∧ (σ.en 2560).live = true ∧ (σ.en 2560).gen = 1 ∧ (σ.en 2560).frz = false ∧ (σ.en 2560).sz = 1 ∧ (σ.en 2560).elems = G.map rO) (fun zz => zs.length - zz.1) ((0, -1)) ⟨⟨Nat.zero_le _, lastAt_zero _ _⟩, by simp [put_sl, put_en, put_none, init_sl, fresh_sl, fresh_en, ent_sl, ent_en, init_en, e8, e4, m1088a, m1088b, m1088c, m1088d, m1088e, e5, m1216a, m1216b, m1216c, m1216d, m1216e, e7, m2560a, m2560b, m2560c, m2560d, m2560e], by simp [put_sl, put_en, put_none, init_sl, fresh_sl, fresh_en, ent_sl, ent_en, init_en, e8, e4, m1088a, m1088b, m1088c, m1088d, m1088e, e5, m1216a, m1216b, m1216c, m1216d, m1216e, e7, m2560a, m2560b, m2560c, m2560d, m2560e], by simp [put_sl, put_en, put_none, init_sl, fresh_sl, fresh_en, ent_sl, ent_en, init_en, e8, e4, m1088a, m1088b, m1088c, m1088d, m1088e, e5, m1216a, m1216b, m1216c, m1216d, m1216e, e7, m2560a, m2560b, m2560c, m2560d, m2560e], by simp [put_sl, put_en, put_none, init_sl, fresh_sl, fresh_en, ent_sl, ent_en, init_en, e8, e4, m1088a, m1088b, m1088c, m1088d, m1088e, e5, m1216a, m1216b, m1216c, m1216d, m1216e, e7, m2560a, m2560b, m2560c, m2560d, m2560e], by simp [put_sl, put_en, put_none, init_sl, fresh_sl, fresh_en, ent_sl, ent_en, init_en, e8, e4, m1088a, m1088b, m1088c, m1088d, m1088e, e5, m1216a, m1216b, m1216c, m1216d, m1216e, e7, m2560a, m2560b, m2560c, m2560d, m2560e], by simp [put_sl, put_en, put_none, init_sl, fresh_sl, fresh_en, ent_sl, ent_en, init_en, e8, e4, m1088a, m1088b, m1088c, m1088d, m1088e, e5, m1216a, m1216b, m1216c, m1216d, m1216e, e7, m2560a, m2560b, m2560c, m2560d, m2560e], by simp [put_sl, put_en, put_none, init_sl, fresh_sl, fresh_en, ent_sl, ent_en, init_en, e8, e4, m1088a, m1088b, m1088c, m1088d, m1088e, e5, m1216a, m1216b, m1216c, m1216d, m1216e, e7, m2560a, m2560b, m2560c, m2560d, m2560e], by simp [put_sl, put_en, put_none, init_sl, fresh_sl, fresh_en, ent_sl, ent_en, init_en, e8, e4, m1088a, m1088b, m1088c, m1088d, m1088e, e5, m1216a, m1216b, m1216c, m1216d, m1216e, e7, m2560a, m2560b, m2560c, m2560d, m2560e], by simp [put_sl, put_en, put_none, init_sl, fresh_sl, fresh_en, ent_sl, ent_en, init_en, e8, e4, m1088a, m1088b, m1088c, m1088d, m1088e, e5, m1216a, m1216b, m1216c, m1216d, m1216e, e7, m2560a, m2560b, m2560c, m2560d, m2560e], by simp [put_sl, put_en, put_none, init_sl, fresh_sl, fresh_en, ent_sl, ent_en, init_en, e8, e4, m1088a, m1088b, m1088c, m1088d, m1088e, e5, m1216a, m1216b, m1216c, m1216d, m1216e, e7, m2560a, m2560b, m2560c, m2560d, m2560e], by simp [put_sl, put_en, put_none, init_sl, fresh_sl, fresh_en, ent_sl, ent_en, init_en, e8, e4, m1088a, m1088b, m1088c, m1088d, m1088e, e5, m1216a, m1216b, m1216c, m1216d, m1216e, e7, m2560a, m2560b, m2560c, m2560d, m2560e], by simp [put_sl, put_en, put_none, init_sl, fresh_sl, fresh_en, ent_sl, ent_en, init_en, e8, e4, m1088a, m1088b, m1088c, m1088d, m1088e, e5, m1216a, m1216b, m1216c, m1216d, m1216e, e7, m2560a, m2560b, m2560c, m2560d, m2560e], by simp [put_sl, put_en, put_none, init_sl, fresh_sl, fresh_en, ent_sl, ent_en, init_en, e8, e4, m1088a, m1088b, m1088c, m1088d, m1088e, e5, m1216a, m1216b, m1216c, m1216d, m1216e, e7, m2560a, m2560b, m2560c, m2560d, m2560e], by simp [put_sl, put_en, put_none, init_sl, fresh_sl, fresh_en, ent_sl, ent_en, init_en, e8, e4, m1088a, m1088b, m1088c, m1088d, m1088e, e5, m1216a, m1216b, m1216c, m1216d, m1216e, e7, m2560a, m2560b, m2560c, m2560d, m2560e], by simp [put_sl, put_en, put_none, init_sl, fresh_sl, fresh_en, ent_sl, ent_en, init_en, e8, e4, m1088a, m1088b, m1088c, m1088d, m1088e, e5, m1216a, m1216b, m1216c, m1216d, m1216e, e7, m2560a, m2560b, m2560c, m2560d, m2560e], by simp [put_sl, put_en, put_none, init_sl, fresh_sl, fresh_en, ent_sl, ent_en, init_en, e8, e4, m1088a, m1088b, m1088c, m1088d, m1088e, e5, m1216a, m1216b, m1216c, m1216d, m1216e, e7, m2560a, m2560b, m2560c, m2560d, m2560e], by simp [put_sl, put_en, put_none, init_sl, fresh_sl, fresh_en, ent_sl, ent_en, init_en, e8, e4, m1088a, m1088b, m1088c, m1088d, m1088e, e5, m1216a, m1216b, m1216c, m1216d, m1216e, e7, m2560a, m2560b, m2560c, m2560d, m2560e], by simp [put_sl, put_en, put_none, init_sl, fresh_sl, fresh_en, ent_sl, ent_en, init_en, e8, e4, m1088a, m1088b, m1088c, m1088d, m1088e, e5, m1216a, m1216b, m1216c, m1216d, m1216e, e7, m2560a, m2560b, m2560c, m2560d, m2560e], by simp [put_sl, put_en, put_none, init_sl, fresh_sl, fresh_en, ent_sl, ent_en, init_en, e8, e4, m1088a, m1088b, m1088c, m1088d, m1088e, e5, m1216a, m1216b, m1216c, m1216d, m1216e, e7, m2560a, m2560b, m2560c, m2560d, m2560e], by simp [put_sl, put_en, put_none, init_sl, fresh_sl, fresh_en, ent_sl, ent_en, init_en, e8, e4, m1088a, m1088b, m1088c, m1088d, m1088e, e5, m1216a, m1216b, m1216c, m1216d, m1216e, e7, m2560a, m2560b, m2560c, m2560d, m2560e], by simp [put_sl, put_en, put_none, init_sl, fresh_sl, fresh_en, ent_sl, ent_en, init_en, e8, e4, m1088a, m1088b, m1088c, m1088d, m1088e, e5, m1216a, m1216b, m1216c, m1216d, m1216e, e7, m2560a, m2560b, m2560c, m2560d, m2560e]⟩ ?_
    clear e8 e4 m1088a m1088b m1088c m1088d m1088e e5 m1216a m1216b m1216c m1216d m1216e e7 m2560a m2560b m2560c m2560d m2560e
    rintro ⟨j, last⟩ σ ⟨hj, e10, e9, e8, e4, m1088a, m1088b, m1088c, m1088d, m1088e, e5, m1216a, m1216b, m1216c, m1216d, m1216e, e7, m2560a, m2560b, m2560c, m2560d, m2560e⟩
    try dsimp only at e10 e9 e8 e4 m1088a m1088b m1088c m1088d m1088e e5 m1216a m1216b m1216c m1216d m1216e e7 m2560a m2560b m2560c m2560d m2560e hj
    obtain ⟨hj, hL⟩ := hj
    have h2 : G[i]!.length = 2 := hgl _ (by rw [getElem!_pos G i (by omega)]; exact List.getElem_mem _)
    simp only [vmA, Nat.reduceEqDiff, reduceIte, Nat.reduceAdd, Nat.reduceBEq, reduceCtorEq, Nat.reduceLT, Int.reduceLE, Int.reduceLT, Int.reduceEq, Nat.reduceMul, Nat.reduceLeDiff, e10, e9, e8, e4, m1088a, m1088b, m1088c, m1088d, m1088e, e5, m1216a, m1216b, m1216c, m1216d, m1216e, e7, m2560a, m2560b, m2560c, m2560d, m2560e, List.length_map, rO, vA, h2, Int.toNat_zero, Int.toNat_one]
    refine ⟨fun hlt2 => ?_, fun hge2 => ?_⟩
    · have h3 : zs[j]!.length = 3 := (hzw _ (by rw [getElem!_pos zs j (by omega)]; exact List.getElem_mem _)).1
      refine ⟨hlt2, by omega, by omega, by omega, hlt, by omega, by omega, ?_⟩
      rw [vEq_bool]
      simp only [vmA, Nat.reduceEqDiff, reduceIte, Nat.reduceAdd, Nat.reduceBEq, reduceCtorEq, Nat.reduceLT, Int.reduceLE, Int.reduceLT, Int.reduceEq, Nat.reduceMul, Nat.reduceLeDiff, e10, e9, e8, e4, m1088a, m1088b, m1088c, m1088d, m1088e, e5, m1216a, m1216b, m1216c, m1216d, m1216e, e7, m2560a, m2560b, m2560c, m2560d, m2560e, decide_eq_true_eq, decide_eq_false_iff_not]
      refine ⟨fun hv => ?_, fun hv => ?_⟩
      · rw [wr (by omega)]
        exact ⟨(j + 1, (j : Int)), ⟨⟨by dsimp only; omega, lastAt_yes zs _ j hv⟩, rfl, rfl⟩, by dsimp only; omega⟩
      · rw [wr (by omega)]
        exact ⟨(j + 1, last), ⟨⟨by dsimp only; omega, lastAt_no hL hv⟩, rfl, rfl⟩, by dsimp only; omega⟩
    · obtain rfl : j = zs.length := by omega
      refine ⟨hlt, by omega, by omega, fun hk => ⟨fun h => ?_, fun h => ⟨⟨by omega, by have := hL.lt; omega⟩, ?_⟩⟩, fun hk => ?_⟩
      · have := (hW2 G[i]! (by rw [getElem!_pos G i (by omega)]; exact List.getElem_mem _) last hL hk).1
        omega
      · obtain ⟨g1, g2⟩ := hW2 G[i]! (by rw [getElem!_pos G i (by omega)]; exact List.getElem_mem _) last hL hk
        have hlz := hL.lt
        rw [show zs[last.toNat]? = some zs[last.toNat]! from by rw [getElem!_pos zs _ (by omega)]; exact List.getElem?_eq_getElem (by omega)]
        simp only [vmA, Nat.reduceEqDiff, reduceIte, Nat.reduceAdd, Nat.reduceBEq, reduceCtorEq, Nat.reduceLT, Int.reduceLE, Int.reduceLT, Int.reduceEq, Nat.reduceMul, Nat.reduceLeDiff, e10, e9, e8, e4, m1088a, m1088b, m1088c, m1088d, m1088e, e5, m1216a, m1216b, m1216c, m1216d, m1216e, e7, m2560a, m2560b, m2560c, m2560d, m2560e, Option.map_some, sA, rO, vA, List.length_map, h2]
        refine ⟨hlt, by omega, by omega, by rw [Int.toNat_one]; omega, fun hne => absurd g2 hne, fun _ => ?_⟩
        rw [wr (by omega)]
        exact ⟨i + 1, ⟨by omega, rfl⟩, by omega⟩
      · rw [wr (by omega)]
        exact ⟨i + 1, ⟨by omega, rfl⟩, by omega⟩
  · rw [hI]
    simp only [behind_nf (show hasFro (.fro none true []) = false from rfl)]
    simp only [vmA, Nat.reduceEqDiff, reduceIte, Nat.reduceAdd, Nat.reduceBEq, reduceCtorEq, Nat.reduceLT, Int.reduceLE, Int.reduceLT, Int.reduceEq, Nat.reduceMul, Nat.reduceLeDiff, List.length_map, hasFroL_rO, behind_nf, hasFro, map_froize_rO]
    refine callR (f10 rs false (by omega) hrl hok) ?_
    rintro _ _ ⟨⟨ys4, hw4, rfl⟩, rfl⟩
    rw [hu ys4 hw4]
    simp only [vmA, Nat.reduceEqDiff, reduceIte, Nat.reduceAdd, Nat.reduceBEq, reduceCtorEq, Nat.reduceLT, Int.reduceLE, Int.reduceLT, Int.reduceEq, Nat.reduceMul, Nat.reduceLeDiff, List.length_map, hasFroL_rO, behind_nf, hasFro, map_froize_rO, take_map_len]
    refine callD (f9 zs false false (by omega) (fun r hr => by have := (hzw r hr).1; omega)) ?_
    simp only [vmA, Nat.reduceEqDiff, reduceIte, Nat.reduceAdd, Nat.reduceBEq, reduceCtorEq, Nat.reduceLT, Int.reduceLE, Int.reduceLT, Int.reduceEq, Nat.reduceMul, Nat.reduceLeDiff, List.length_map, hasFroL_rO, behind_nf, hasFro, map_froize_rO, take_map_len]
    refine callD (f11 c3 rs [0] 2 2 true false true (by decide) (by omega) (by decide) hok) ?_
    rw [hG]
    simp only [vmA, Nat.reduceEqDiff, reduceIte, Nat.reduceAdd, Nat.reduceBEq, reduceCtorEq, Nat.reduceLT, Int.reduceLE, Int.reduceLT, Int.reduceEq, Nat.reduceMul, Nat.reduceLeDiff, List.length_map, hasFroL_rO, behind_nf, hasFro, map_froize_rO, take_map_len]
    refine callD (f9 [] true false (by decide) (fun r hr => by simp at hr)) ?_
    simp only [vmA, Nat.reduceEqDiff, reduceIte, Nat.reduceAdd, Nat.reduceBEq, reduceCtorEq, Nat.reduceLT, Int.reduceLE, Int.reduceLT, Int.reduceEq, Nat.reduceMul, Nat.reduceLeDiff, List.length_map, hasFroL_rO, behind_nf, hasFro, map_froize_rO, take_map_len]
    refine WT_loop (fun (i : Nat) σ => (i = 0) ∧ σ.sl 8 = .int .i64 i ∧ σ.sl 7 = .fro none true []) (fun i => i) (0) ⟨rfl, by simp [put_sl, put_en, put_none, init_sl, fresh_sl, fresh_en, ent_sl, ent_en, init_en], by simp [put_sl, put_en, put_none, init_sl, fresh_sl, fresh_en, ent_sl, ent_en, init_en]⟩ ?_
    rintro i σ ⟨hi, e8, e7⟩
    subst hi
    simp only [vmA, Nat.reduceEqDiff, reduceIte, Nat.reduceAdd, Nat.reduceBEq, reduceCtorEq, Nat.reduceLT, Int.reduceLE, Int.reduceLT, Int.reduceEq, Nat.reduceMul, Nat.reduceLeDiff, e8, e7, List.length_nil]
    refine ⟨fun h => absurd h (Int.lt_irrefl _), fun _ => callD f12 ?_⟩
    simp only [vmA, Nat.reduceEqDiff, reduceIte, Nat.reduceAdd, Nat.reduceBEq, reduceCtorEq, Nat.reduceLT, Int.reduceLE, Int.reduceLT, Int.reduceEq, Nat.reduceMul, Nat.reduceLeDiff, e8, e7]
    (refine hQ _ ?_; simp only [vmA, Nat.reduceEqDiff, reduceIte, Nat.reduceAdd, Nat.reduceBEq, reduceCtorEq, Nat.reduceLT, Int.reduceLE, Int.reduceLT, Int.reduceEq, Nat.reduceMul, Nat.reduceLeDiff, Try.f3, retG, resL, St.closeVs, St.closeV])
