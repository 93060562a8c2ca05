/- WALK of functions of the seat, or plain laws for it: each theorem f<k> says what function k returns, for every world and all arguments that stand for the values named. Conditions: none but those ahead of each theorem. -/
import Derived.Test.YtfimolakepbdbaaYV4
import Derived.Test.YtfimolakepbdbaaYU2
open Go Go.Vm Go.Proofs
set_option maxRecDepth 100000
set_option maxHeartbeats 8000000
set_option linter.unusedSimpArgs false
set_option linter.unusedVariables false
theorem f23 (a b : List (List Val)) (hp : a.Perm b) (hl : a.length ≤ 1048 ∧ b.length ≤ 1048) (hpos : 0 < a.length) (hr : ∀ w ∈ a, w.length ≤ 1048576) : Fx 23 [.fro none false (a.map rA), .fro none false (b.map rA)] (.bool true) := by
  have hr2 : ∀ w ∈ b, w.length ≤ 1048576 := fun w hw => hr w (hp.mem_iff.2 hw)
  refine fn_of ⟨false, [], []⟩ Try.func23 (by kernel_rfl) rfl (by kernel_rfl) (by kernel_rfl) (Nat.le_of_ble_eq_true rfl) rfl fun Q hQ => ?_
  simp only [vmA, Nat.reduceEqDiff, reduceIte, Nat.reduceAdd, Nat.reduceBEq, reduceCtorEq, Nat.reduceLT, Int.reduceLE, Int.reduceLT, Int.reduceEq, Nat.reduceMul, Nat.reduceLeDiff, List.length_map]
  refine callD (f48 a b true hl (by omega)) ?_
  obtain ⟨bb, hbb⟩ : ∃ bb, hasFro.hasFroL ((a ++ b).map rA) = bb := ⟨_, rfl⟩
  have hlen : ((a ++ b).map rA).length = a.length + b.length := by simp
  have hmany : ∀ r, rMany a r = rMany b r := fun r => hp.countP_eq _
  have hab : ∀ i, i < a.length + b.length → (a ++ b)[i]! ∈ a := fun i hi => by
    have h1 : (a ++ b)[i]! ∈ a ++ b := by rw [getElem!_pos (a ++ b) i (by simpa using hi)]; exact List.getElem_mem _
    rcases List.mem_append.1 h1 with h2 | h2
    · exact h2
    · exact hp.mem_iff.2 h2
  cases bb
  · simp only [vmA, Nat.reduceEqDiff, reduceIte, Nat.reduceAdd, Nat.reduceBEq, reduceCtorEq, Nat.reduceLT, Int.reduceLE, Int.reduceLT, Int.reduceEq, Nat.reduceMul, Nat.reduceLeDiff, behind_all, frzB_true, frzB_false, freezeL_nil, freezeL_one, lentOf, hbb, List.length_map, hlen]
    refine WT_loop (fun (i : Nat) σ => (i ≤ a.length + b.length) ∧ σ.sl 12 = .int .i64 i ∧ σ.sl 11 = .int .i64 ((a.length + b.length : Nat) : Int) ∧ σ.sl 0 = .fro none false (a.map rA) ∧ σ.sl 1 = .fro none false (b.map rA) ∧ σ.sl 10 = .hd 640 1 0 (a.length+b.length) false ∧ (σ.en 640).live = true ∧ (σ.en 640).gen = 1 ∧ (σ.en 640).frz = false ∧ (σ.en 640).sz = 1 ∧ (σ.en 640).elems = (a ++ b).map rA) (fun i => a.length + b.length - i) (0) ⟨Nat.zero_le _, by simp [put_sl, put_en, put_none, init_sl, fresh_sl, fresh_en, ent_sl, ent_en, init_en, freeze_sl, freeze_en], by simp [put_sl, put_en, put_none, init_sl, fresh_sl, fresh_en, ent_sl, ent_en, init_en, freeze_sl, freeze_en], by simp [put_sl, put_en, put_none, init_sl, fresh_sl, fresh_en, ent_sl, ent_en, init_en, freeze_sl, freeze_en], by simp [put_sl, put_en, put_none, init_sl, fresh_sl, fresh_en, ent_sl, ent_en, init_en, freeze_sl, freeze_en], by simp [put_sl, put_en, put_none, init_sl, fresh_sl, fresh_en, ent_sl, ent_en, init_en, freeze_sl, freeze_en], by simp [put_sl, put_en, put_none, init_sl, fresh_sl, fresh_en, ent_sl, ent_en, init_en, freeze_sl, freeze_en], by simp [put_sl, put_en, put_none, init_sl, fresh_sl, fresh_en, ent_sl, ent_en, init_en, freeze_sl, freeze_en], by simp [put_sl, put_en, put_none, init_sl, fresh_sl, fresh_en, ent_sl, ent_en, init_en, freeze_sl, freeze_en], by simp [put_sl, put_en, put_none, init_sl, fresh_sl, fresh_en, ent_sl, ent_en, init_en, freeze_sl, freeze_en], by simp [put_sl, put_en, put_none, init_sl, fresh_sl, fresh_en, ent_sl, ent_en, init_en, freeze_sl, freeze_en]⟩ ?_
    rintro i σ ⟨hi, e12, e11, e0, e1, e10, m640a, m640b, m640c, m640d, m640e⟩
    simp only [vmA, Nat.reduceEqDiff, reduceIte, Nat.reduceAdd, Nat.reduceBEq, reduceCtorEq, Nat.reduceLT, Int.reduceLE, Int.reduceLT, Int.reduceEq, Nat.reduceMul, Nat.reduceLeDiff, e12, e11, e0, e1, e10, m640a, m640b, m640c, m640d, m640e, rA, List.length_map]
    refine ⟨fun h => ⟨⟨h, by simp⟩, by simp; omega, callD (f49 a (a ++ b)[i]! false false (by omega) hr (hr _ (hab i (by omega)))) ?_⟩, fun h => ?_⟩
    · simp only [vmA, Nat.reduceEqDiff, reduceIte, Nat.reduceAdd, Nat.reduceBEq, reduceCtorEq, Nat.reduceLT, Int.reduceLE, Int.reduceLT, Int.reduceEq, Nat.reduceMul, Nat.reduceLeDiff, e12, e11, e0, e1, e10, m640a, m640b, m640c, m640d, m640e, rA, List.length_map]
      refine callD (f49 b (a ++ b)[i]! false false (by omega) hr2 (hr _ (hab i (by omega)))) ?_
      simp only [vmA, Nat.reduceEqDiff, reduceIte, Nat.reduceAdd, Nat.reduceBEq, reduceCtorEq, Nat.reduceLT, Int.reduceLE, Int.reduceLT, Int.reduceEq, Nat.reduceMul, Nat.reduceLeDiff, e12, e11, e0, e1, e10, m640a, m640b, m640c, m640d, m640e, rA, List.length_map, hmany]
      rw [wr (by omega)]
      exact ⟨i + 1, ⟨by omega, leafJ (by omega)⟩, by omega⟩
    · (refine hQ _ ?_; simp only [vmA, Nat.reduceEqDiff, reduceIte, Nat.reduceAdd, Nat.reduceBEq, reduceCtorEq, Nat.reduceLT, Int.reduceLE, Int.reduceLT, Int.reduceEq, Nat.reduceMul, Nat.reduceLeDiff, Try.f23, retG, resL, St.closeVs, St.closeV])
  · simp only [vmA, Nat.reduceEqDiff, reduceIte, Nat.reduceAdd, Nat.reduceBEq, reduceCtorEq, Nat.reduceLT, Int.reduceLE, Int.reduceLT, Int.reduceEq, Nat.reduceMul, Nat.reduceLeDiff, behind_all, frzB_true, frzB_false, freezeL_nil, freezeL_one, lentOf, hbb, List.length_map, hlen]
    refine WT_loop (fun (i : Nat) σ => (i ≤ a.length + b.length) ∧ σ.sl 12 = .int .i64 i ∧ σ.sl 11 = .int .i64 ((a.length + b.length : Nat) : Int) ∧ σ.sl 0 = .fro none false (a.map rA) ∧ σ.sl 1 = .fro none false (b.map rA) ∧ σ.sl 10 = .hd 640 1 0 (a.length+b.length) false ∧ (σ.en 640).live = true ∧ (σ.en 640).gen = 1 ∧ (σ.en 640).frz = false ∧ (σ.en 640).sz = 1 ∧ (σ.en 640).elems = (a ++ b).map rA) (fun i => a.length + b.length - i) (0) ⟨Nat.zero_le _, by simp [put_sl, put_en, put_none, init_sl, fresh_sl, fresh_en, ent_sl, ent_en, init_en, freeze_sl, freeze_en], by simp [put_sl, put_en, put_none, init_sl, fresh_sl, fresh_en, ent_sl, ent_en, init_en, freeze_sl, freeze_en], by simp [put_sl, put_en, put_none, init_sl, fresh_sl, fresh_en, ent_sl, ent_en, init_en, freeze_sl, freeze_en], by simp [put_sl, put_en, put_none, init_sl, fresh_sl, fresh_en, ent_sl, ent_en, init_en, freeze_sl, freeze_en], by simp [put_sl, put_en, put_none, init_sl, fresh_sl, fresh_en, ent_sl, ent_en, init_en, freeze_sl, freeze_en], by simp [put_sl, put_en, put_none, init_sl, fresh_sl, fresh_en, ent_sl, ent_en, init_en, freeze_sl, freeze_en], by simp [put_sl, put_en, put_none, init_sl, fresh_sl, fresh_en, ent_sl, ent_en, init_en, freeze_sl, freeze_en], by simp [put_sl, put_en, put_none, init_sl, fresh_sl, fresh_en, ent_sl, ent_en, init_en, freeze_sl, freeze_en], by simp [put_sl, put_en, put_none, init_sl, fresh_sl, fresh_en, ent_sl, ent_en, init_en, freeze_sl, freeze_en], by simp [put_sl, put_en, put_none, init_sl, fresh_sl, fresh_en, ent_sl, ent_en, init_en, freeze_sl, freeze_en]⟩ ?_
    rintro i σ ⟨hi, e12, e11, e0, e1, e10, m640a, m640b, m640c, m640d, m640e⟩
    simp only [vmA, Nat.reduceEqDiff, reduceIte, Nat.reduceAdd, Nat.reduceBEq, reduceCtorEq, Nat.reduceLT, Int.reduceLE, Int.reduceLT, Int.reduceEq, Nat.reduceMul, Nat.reduceLeDiff, e12, e11, e0, e1, e10, m640a, m640b, m640c, m640d, m640e, rA, List.length_map]
    refine ⟨fun h => ⟨⟨h, by simp⟩, by simp; omega, callD (f49 a (a ++ b)[i]! false false (by omega) hr (hr _ (hab i (by omega)))) ?_⟩, fun h => ?_⟩
    · simp only [vmA, Nat.reduceEqDiff, reduceIte, Nat.reduceAdd, Nat.reduceBEq, reduceCtorEq, Nat.reduceLT, Int.reduceLE, Int.reduceLT, Int.reduceEq, Nat.reduceMul, Nat.reduceLeDiff, e12, e11, e0, e1, e10, m640a, m640b, m640c, m640d, m640e, rA, List.length_map]
      refine callD (f49 b (a ++ b)[i]! false false (by omega) hr2 (hr _ (hab i (by omega)))) ?_
      simp only [vmA, Nat.reduceEqDiff, reduceIte, Nat.reduceAdd, Nat.reduceBEq, reduceCtorEq, Nat.reduceLT, Int.reduceLE, Int.reduceLT, Int.reduceEq, Nat.reduceMul, Nat.reduceLeDiff, e12, e11, e0, e1, e10, m640a, m640b, m640c, m640d, m640e, rA, List.length_map, hmany]
      rw [wr (by omega)]
      exact ⟨i + 1, ⟨by omega, leafJ (by omega)⟩, by omega⟩
    · (refine hQ _ ?_; simp only [vmA, Nat.reduceEqDiff, reduceIte, Nat.reduceAdd, Nat.reduceBEq, reduceCtorEq, Nat.reduceLT, Int.reduceLE, Int.reduceLT, Int.reduceEq, Nat.reduceMul, Nat.reduceLeDiff, Try.f23, retG, resL, St.closeVs, St.closeV])
theorem WinR.perm {ws : List (List Val)} {ys : List (Nat × List Val)} (h : WinR ws ys) (hne : ys.map Prod.snd ≠ []) : (ys.map Prod.snd).Perm ws := by
  rcases h with ⟨_, hp, _⟩ | ⟨_, rfl⟩
  · have := hp.map Prod.snd
    rwa [tagL_map] at this
  · exact absurd rfl hne
theorem WinR.again {zs : List (List Val)} (hs : SortedR zs) (hw : ∀ r ∈ zs, winP r) (hl : zs.length ≤ 50) : WinR zs (tagL zs) := by
  refine .inl ⟨⟨hl, hw⟩, List.Perm.refl _, fun p q _ hpq hq => ?_⟩
  have h1 := hs p q hpq hq
  have e : ∀ i, i < zs.length → (tagL zs)[i]! = (i, zs[i]!) := fun i hi => mkL_at _ hi
  rw [e p (by omega), e q hq]
  unfold zlt
  dsimp only
  omega
theorem f5 (xs : List UInt8) (hl : xs.length ≤ 9223372036854775807) : Fx 5 [.fro none false (xs.map bA)] (.bool true) := by
  refine fn_of ⟨false, [], []⟩ Try.func5 (by kernel_rfl) rfl (by kernel_rfl) (by kernel_rfl) (Nat.le_of_ble_eq_true rfl) rfl fun Q hQ => ?_
  simp only [vmA, Nat.reduceEqDiff, reduceIte, Nat.reduceAdd, Nat.reduceBEq, reduceCtorEq, Nat.reduceLT, Int.reduceLE, Int.reduceLT, Int.reduceEq, Nat.reduceMul, Nat.reduceLeDiff, List.length_map]
  refine ⟨fun h => ?_, fun h => callR (f20 xs hl) ?_⟩
  · (refine hQ _ ?_; simp only [vmA, Nat.reduceEqDiff, reduceIte, Nat.reduceAdd, Nat.reduceBEq, reduceCtorEq, Nat.reduceLT, Int.reduceLE, Int.reduceLT, Int.reduceEq, Nat.reduceMul, Nat.reduceLeDiff, Try.f5, retG, resL, St.closeVs, St.closeV])
  rintro _ _ ⟨⟨rs, rfl, hr1, hr2⟩, rfl⟩
  have k1 : rs.length ≤ 1048576 := by omega
  have k2 : ∀ w ∈ rs, w.length ≤ 1048576 := fun w hw => by have := (hr2 w hw).1; omega
  have k3 := okD.ok hr2
  simp only [vmA, Nat.reduceEqDiff, reduceIte, Nat.reduceAdd, Nat.reduceBEq, reduceCtorEq, Nat.reduceLT, Int.reduceLE, Int.reduceLT, Int.reduceEq, Nat.reduceMul, Nat.reduceLeDiff, rO, behind_nf, hasFroL_rR, map_froize_rO, List.length_map]
  refine callR (f12 rs false k1 k2 k3) ?_
  rintro _ _ ⟨⟨ys, hy, rfl⟩, rfl⟩
  rw [rT_snd]
  obtain ⟨zs, hzs⟩ : ∃ zs, ys.map Prod.snd = zs := ⟨_, rfl⟩
  have hs := hy.sorted
  have hw := hy.win
  have hzl := hy.len
  have hsub := hy.sub
  have hperm := hy.perm
  rw [hzs] at hs hw hzl hsub hperm ⊢
  obtain ⟨s1, s2⟩ := hsub
  have j2 : ∀ w ∈ zs, w.length ≤ 1048576 := fun w h => k2 w (s2 w h)
  have j3 : ∀ r ∈ zs, okR r := fun r h => k3 r (s2 r h)
  simp only [vmA, Nat.reduceEqDiff, reduceIte, Nat.reduceAdd, Nat.reduceBEq, reduceCtorEq, Nat.reduceLT, Int.reduceLE, Int.reduceLT, Int.reduceEq, Nat.reduceMul, Nat.reduceLeDiff, rO, behind_nf, hasFroL_rR, map_froize_rO, List.length_map]
  refine callR (f10 rs false k1 k2 k3) ?_
  rintro _ _ ⟨⟨ys2, hy2, rfl⟩, rfl⟩
  obtain rfl := hy2.uniq hy
  rw [rT_snd, hzs]
  simp only [vmA, Nat.reduceEqDiff, reduceIte, Nat.reduceAdd, Nat.reduceBEq, reduceCtorEq, Nat.reduceLT, Int.reduceLE, Int.reduceLT, Int.reduceEq, Nat.reduceMul, Nat.reduceLeDiff, rO, behind_nf, hasFroL_rR, map_froize_rO, List.length_map]
  refine callD (f21 zs false false (by omega) j2) ?_
  simp only [vmA, Nat.reduceEqDiff, reduceIte, Nat.reduceAdd, Nat.reduceBEq, reduceCtorEq, Nat.reduceLT, Int.reduceLE, Int.reduceLT, Int.reduceEq, Nat.reduceMul, Nat.reduceLeDiff, rO, behind_nf, hasFroL_rR, map_froize_rO, List.length_map]
  refine WT_loop (fun (k : Nat) σ => (1 ≤ k) ∧ σ.sl 5 = .int .i64 k ∧ σ.sl 4 = .hd 832 1 0 zs.length false ∧ (σ.en 832).live = true ∧ (σ.en 832).gen = 1 ∧ (σ.en 832).frz = false ∧ (σ.en 832).sz = 1 ∧ (σ.en 832).elems = zs.map rO ∧ σ.sl 3 = .hd 704 1 0 rs.length false ∧ (σ.en 704).live = true ∧ (σ.en 704).gen = 1 ∧ (σ.en 704).frz = false ∧ (σ.en 704).sz = 1 ∧ (σ.en 704).elems = rs.map rO) (fun k => zs.length - k) (1) ⟨Nat.le_refl _, by simp [put_sl, put_en, put_none, init_sl, fresh_sl, fresh_en, ent_sl, ent_en, init_en, rO], by simp [put_sl, put_en, put_none, init_sl, fresh_sl, fresh_en, ent_sl, ent_en, init_en, rO], by simp [put_sl, put_en, put_none, init_sl, fresh_sl, fresh_en, ent_sl, ent_en, init_en, rO], by simp [put_sl, put_en, put_none, init_sl, fresh_sl, fresh_en, ent_sl, ent_en, init_en, rO], by simp [put_sl, put_en, put_none, init_sl, fresh_sl, fresh_en, ent_sl, ent_en, init_en, rO], by simp [put_sl, put_en, put_none, init_sl, fresh_sl, fresh_en, ent_sl, ent_en, init_en, rO], by simp [put_sl, put_en, put_none, init_sl, fresh_sl, fresh_en, ent_sl, ent_en, init_en, rO], by simp [put_sl, put_en, put_none, init_sl, fresh_sl, fresh_en, ent_sl, ent_en, init_en, rO], by simp [put_sl, put_en, put_none, init_sl, fresh_sl, fresh_en, ent_sl, ent_en, init_en, rO], by simp [put_sl, put_en, put_none, init_sl, fresh_sl, fresh_en, ent_sl, ent_en, init_en, rO], by simp [put_sl, put_en, put_none, init_sl, fresh_sl, fresh_en, ent_sl, ent_en, init_en, rO], by simp [put_sl, put_en, put_none, init_sl, fresh_sl, fresh_en, ent_sl, ent_en, init_en, rO], by simp [put_sl, put_en, put_none, init_sl, fresh_sl, fresh_en, ent_sl, ent_en, init_en, rO]⟩ ?_
  rintro k σ ⟨hi, e5, e4, m832a, m832b, m832c, m832d, m832e, e3, m704a, m704b, m704c, m704d, m704e⟩
  by_cases hlt : k < zs.length
  · have p0 : ((k : Int) < zs.length) = True := eq_true (by omega)
    have p1 : (k < zs.length) = True := eq_true (by omega)
    have z1 : IntKind.i64.wrap ((k : Int) - 1) = ((k - 1 : Nat) : Int) := by rw [wr (by omega)]; omega
    have z3 : (((k - 1 : Nat) : Int) < zs.length) = True := eq_true (by omega)
    have z4 : (k - 1 < zs.length) = True := eq_true (by omega)
    have hmk : zs[k]! ∈ zs := by rw [getElem!_pos zs k hlt]; exact List.getElem_mem _
    have hmp : zs[k - 1]! ∈ zs := by rw [getElem!_pos zs (k - 1) (by omega)]; exact List.getElem_mem _
    obtain ⟨c0, c1, c2, d0, d1, d2⟩ := winLens (hw _ hmk)
    obtain ⟨w0, w1, w2, x0, x1, x2⟩ := winLens (hw _ hmp)
    have hcmp := rowCmp_le.1 (hs (k - 1) k (by omega) hlt)
    have at1 := fun (i : Nat) (hi : i < 3) => f22 zs[k - 1]![i]! zs[k]![i]! ((hw _ hmp).at hi) ((hw _ hmk).at hi) ((j3 _ hmp).at (by have := (hw _ hmp).1; omega)) ((j3 _ hmk).at (by have := (hw _ hmk).1; omega))
    simp only [vmA, Nat.reduceEqDiff, reduceIte, Nat.reduceAdd, Nat.reduceBEq, reduceCtorEq, Nat.reduceLT, Int.reduceLE, Int.reduceLT, Int.reduceEq, Nat.reduceMul, Nat.reduceLeDiff, e5, e4, m832a, m832b, m832c, m832d, m832e, e3, m704a, m704b, m704c, m704d, m704e, rO, behind_nf, hasFroL_rR, map_froize_rO, vA, List.length_map, p0, p1, z1, z3, z4, c0, c1, d0, d1, w0, w1, x0, x1, Int.toNat_natCast, Int.toNat_zero, Int.toNat_one]
    refine callD (at1 0 (by omega)) ?_
    have n1 : (0 < vCmp zs[k - 1]![0]! zs[k]![0]!) = False := eq_false (by omega)
    by_cases hz : vCmp zs[k - 1]![0]! zs[k]![0]! = 0
    · have n2 : (0 < vCmp zs[k - 1]![1]! zs[k]![1]!) = False := eq_false (by have := hcmp.2 hz; omega)
      simp only [vmA, Nat.reduceEqDiff, reduceIte, Nat.reduceAdd, Nat.reduceBEq, reduceCtorEq, Nat.reduceLT, Int.reduceLE, Int.reduceLT, Int.reduceEq, Nat.reduceMul, Nat.reduceLeDiff, e5, e4, m832a, m832b, m832c, m832d, m832e, e3, m704a, m704b, m704c, m704d, m704e, rO, behind_nf, hasFroL_rR, map_froize_rO, vA, List.length_map, p0, p1, z1, z3, z4, c0, c1, d0, d1, w0, w1, x0, x1, Int.toNat_natCast, Int.toNat_zero, Int.toNat_one, n1, hz, Int.lt_irrefl]
      refine callD (at1 1 (by omega)) ?_
      simp only [vmA, Nat.reduceEqDiff, reduceIte, Nat.reduceAdd, Nat.reduceBEq, reduceCtorEq, Nat.reduceLT, Int.reduceLE, Int.reduceLT, Int.reduceEq, Nat.reduceMul, Nat.reduceLeDiff, e5, e4, m832a, m832b, m832c, m832d, m832e, e3, m704a, m704b, m704c, m704d, m704e, rO, behind_nf, hasFroL_rR, map_froize_rO, vA, List.length_map, n2]
      rw [wr (by omega)]
      exact ⟨fun h => absurd h (by have := hcmp.2 hz; omega), fun _ => ⟨k + 1, ⟨by omega, rfl⟩, by omega⟩⟩
    · simp only [vmA, Nat.reduceEqDiff, reduceIte, Nat.reduceAdd, Nat.reduceBEq, reduceCtorEq, Nat.reduceLT, Int.reduceLE, Int.reduceLT, Int.reduceEq, Nat.reduceMul, Nat.reduceLeDiff, e5, e4, m832a, m832b, m832c, m832d, m832e, e3, m704a, m704b, m704c, m704d, m704e, rO, behind_nf, hasFroL_rR, map_froize_rO, vA, List.length_map, p0, p1, z1, z3, z4, c0, c1, d0, d1, w0, w1, x0, x1, Int.toNat_natCast, Int.toNat_zero, Int.toNat_one, n1, hz]
      rw [wr (by omega)]
      exact ⟨fun h => absurd h (by omega), fun _ => ⟨k + 1, ⟨by omega, rfl⟩, by omega⟩⟩
  · have p0 : ((k : Int) < zs.length) = False := eq_false (by omega)
    have hagain : FxR 12 [.fro none false (zs.map rA)] fun r l => r = .own 1 (zs.map rO) ∧ l = .und := (f12 zs false (by omega) j2 j3).mono fun r l ⟨⟨us, hu, e⟩, e2⟩ => ⟨by rw [e, rT_snd, hu.uniq (WinR.again hs hw hzl), tagL_map], e2⟩
    by_cases h0 : zs.length = 0
    · have q0 : ((zs.length : Int) = 0) = True := eq_true (by omega)
      simp only [vmA, Nat.reduceEqDiff, reduceIte, Nat.reduceAdd, Nat.reduceBEq, reduceCtorEq, Nat.reduceLT, Int.reduceLE, Int.reduceLT, Int.reduceEq, Nat.reduceMul, Nat.reduceLeDiff, e5, e4, m832a, m832b, m832c, m832d, m832e, e3, m704a, m704b, m704c, m704d, m704e, rO, behind_nf, hasFroL_rR, map_froize_rO, List.length_map, p0, q0]
      refine callR hagain ?_
      rintro _ _ ⟨rfl, rfl⟩
      simp only [vmA, Nat.reduceEqDiff, reduceIte, Nat.reduceAdd, Nat.reduceBEq, reduceCtorEq, Nat.reduceLT, Int.reduceLE, Int.reduceLT, Int.reduceEq, Nat.reduceMul, Nat.reduceLeDiff, e5, e4, m832a, m832b, m832c, m832d, m832e, e3, m704a, m704b, m704c, m704d, m704e, rO, behind_nf, hasFroL_rR, map_froize_rO, List.length_map]
      refine callD (f21 zs false false (by omega) j2) ?_
      simp only [vmA, Nat.reduceEqDiff, reduceIte, Nat.reduceAdd, Nat.reduceBEq, reduceCtorEq, Nat.reduceLT, Int.reduceLE, Int.reduceLT, Int.reduceEq, Nat.reduceMul, Nat.reduceLeDiff, e5, e4, m832a, m832b, m832c, m832d, m832e, e3, m704a, m704b, m704c, m704d, m704e, rO, behind_nf, hasFroL_rR, map_froize_rO, List.length_map]
      refine callD f19 ?_
      simp only [vmA, Nat.reduceEqDiff, reduceIte, Nat.reduceAdd, Nat.reduceBEq, reduceCtorEq, Nat.reduceLT, Int.reduceLE, Int.reduceLT, Int.reduceEq, Nat.reduceMul, Nat.reduceLeDiff]
      (refine hQ _ ?_; simp only [vmA, Nat.reduceEqDiff, reduceIte, Nat.reduceAdd, Nat.reduceBEq, reduceCtorEq, Nat.reduceLT, Int.reduceLE, Int.reduceLT, Int.reduceEq, Nat.reduceMul, Nat.reduceLeDiff, Try.f5, retG, resL, St.closeVs, St.closeV])
    · have q0 : ((zs.length : Int) = 0) = False := eq_false (by omega)
      simp only [vmA, Nat.reduceEqDiff, reduceIte, Nat.reduceAdd, Nat.reduceBEq, reduceCtorEq, Nat.reduceLT, Int.reduceLE, Int.reduceLT, Int.reduceEq, Nat.reduceMul, Nat.reduceLeDiff, e5, e4, m832a, m832b, m832c, m832d, m832e, e3, m704a, m704b, m704c, m704d, m704e, rO, behind_nf, hasFroL_rR, map_froize_rO, List.length_map, p0, q0]
      refine callD (f23 zs rs (hperm (fun h => h0 (by rw [h]; rfl))) (by omega) (by omega) j2) ?_
      simp only [vmA, Nat.reduceEqDiff, reduceIte, Nat.reduceAdd, Nat.reduceBEq, reduceCtorEq, Nat.reduceLT, Int.reduceLE, Int.reduceLT, Int.reduceEq, Nat.reduceMul, Nat.reduceLeDiff, e5, e4, m832a, m832b, m832c, m832d, m832e, e3, m704a, m704b, m704c, m704d, m704e, rO, behind_nf, hasFroL_rR, map_froize_rO, List.length_map]
      refine callR hagain ?_
      rintro _ _ ⟨rfl, rfl⟩
      simp only [vmA, Nat.reduceEqDiff, reduceIte, Nat.reduceAdd, Nat.reduceBEq, reduceCtorEq, Nat.reduceLT, Int.reduceLE, Int.reduceLT, Int.reduceEq, Nat.reduceMul, Nat.reduceLeDiff, e5, e4, m832a, m832b, m832c, m832d, m832e, e3, m704a, m704b, m704c, m704d, m704e, rO, behind_nf, hasFroL_rR, map_froize_rO, List.length_map]
      refine callD (f21 zs false false (by omega) j2) ?_
      simp only [vmA, Nat.reduceEqDiff, reduceIte, Nat.reduceAdd, Nat.reduceBEq, reduceCtorEq, Nat.reduceLT, Int.reduceLE, Int.reduceLT, Int.reduceEq, Nat.reduceMul, Nat.reduceLeDiff, e5, e4, m832a, m832b, m832c, m832d, m832e, e3, m704a, m704b, m704c, m704d, m704e, rO, behind_nf, hasFroL_rR, map_froize_rO, List.length_map]
      refine callD f19 ?_
      simp only [vmA, Nat.reduceEqDiff, reduceIte, Nat.reduceAdd, Nat.reduceBEq, reduceCtorEq, Nat.reduceLT, Int.reduceLE, Int.reduceLT, Int.reduceEq, Nat.reduceMul, Nat.reduceLeDiff]
      (refine hQ _ ?_; simp only [vmA, Nat.reduceEqDiff, reduceIte, Nat.reduceAdd, Nat.reduceBEq, reduceCtorEq, Nat.reduceLT, Int.reduceLE, Int.reduceLT, Int.reduceEq, Nat.reduceMul, Nat.reduceLeDiff, Try.f5, retG, resL, St.closeVs, St.closeV])
