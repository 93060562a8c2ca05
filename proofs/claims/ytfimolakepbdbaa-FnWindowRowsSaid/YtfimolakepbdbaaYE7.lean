/- WALK of functions of the seat, or plain laws for it: each theorem f<k> says what function k returns, for every world and all arguments that stand for the values named. Conditions: none but those ahead of each theorem. -/
import Derived.Test.YtfimolakepbdbaaYE6
open Go Go.Vm Go.Proofs
set_option maxRecDepth 100000
set_option linter.unusedSimpArgs false
set_option linter.unusedVariables false
set_option maxHeartbeats 8000000 in
theorem f28 (ws : List (List Val)) (c : Bool) (hl : ws.length ≤ 1048576) (hr : ∀ w ∈ ws, w.length ≤ 1048576) (hs : ∀ r ∈ ws, okR r) : FxR 28 [.fro none c (ws.map rA)] fun r l => (∃ ys, WinR ws ys ∧ r = .own 2 ((wRun (ys.map Prod.snd) (ys.map Prod.snd).length 0 0 0).map sA)) ∧ l = .und := by
  refine fn_ofX ⟨false, [], []⟩ Try.func28 (by kernel_rfl) rfl (by kernel_rfl) (by kernel_rfl) (Nat.le_of_ble_eq_true rfl) rfl fun Q hQ => ?_
  simp only [tr_seq, tr_block, tr_loop, tr_cond, tr_skip, tr_exit, tr_ret, tr_reg]
  rw [tr_calm (by kernel_rfl), tr_calm (by kernel_rfl)]
  simp only [vmA, Nat.reduceEqDiff, reduceIte, Nat.reduceAdd, Nat.reduceBEq, reduceCtorEq, Nat.reduceLT, Int.reduceLE, Int.reduceLT, Int.reduceEq, Nat.reduceMul, Nat.reduceLeDiff]
  refine callR (f35 ws c hl hr hs) ?_
  rintro _ _ ⟨⟨ys, hy, rfl⟩, rfl⟩
  rw [rT_snd]
  have hsub := hy.sub
  have hyl : ys.length = (ys.map Prod.snd).length := by rw [List.length_map]
  have hw : ∀ r ∈ ys.map Prod.snd, winP r := hy.win
  simp only [vmA, Nat.reduceEqDiff, reduceIte, Nat.reduceAdd, Nat.reduceBEq, reduceCtorEq, Nat.reduceLT, Int.reduceLE, Int.reduceLT, Int.reduceEq, Nat.reduceMul, Nat.reduceLeDiff, behind_nf, hasFroL_rO, List.length_map]
  rw [hyl]
  refine Exists.elim (show ∃ rs : List (List Val), rs = ys.map Prod.snd from ⟨_, rfl⟩) fun rs hrs => ?_
  have hQ' : ∀ σ, (exP (retG (CC ⟨false, [], []⟩) σ Try.f28.results.toList) fun p => p.1 = .own 2 ((wRun rs rs.length 0 0 0).map sA) ∧ AV.und = AV.und) → Q Ex.ret σ := fun σ h => hQ σ (by
    refine exP_imp ?_ h
    rintro p ⟨hp, _⟩
    exact ⟨⟨ys, hy, by rw [hp, hrs]⟩, rfl⟩)
  have h50 : rs.length ≤ 50 := by rw [hrs]; exact hy.len
  rw [← hrs] at hsub hw ⊢
  clear hyl hrs hy hQ
  obtain ⟨k1, k2⟩ := hsub
  have k3 : ∀ r ∈ rs, okR r := fun r h => hs r (k2 r h)
  refine WT_loopN (fun (p : Nat × Nat × Nat × Int × List Spt × Nat) σ => (p.2.1 ≤ rs.length ∧ rs.length ≤ p.2.1 + p.1 ∧ p.2.2.1 ≤ p.2.1 ∧ p.2.2.2.2.1.length = p.2.1 ∧ (p.2.1 = 0 → p.2.2.2.1 = 0) ∧ -(9999 * (p.2.1 : Int)) ≤ p.2.2.2.1 ∧ p.2.2.2.1 ≤ 9999 * (p.2.1 : Int) ∧ p.2.2.2.2.1 ++ wRun rs p.1 p.2.1 p.2.2.1 p.2.2.2.1 = wRun rs rs.length 0 0 0) ∧ σ.sl 8 = .int .i64 p.2.1 ∧ σ.sl 7 = .int .i64 p.2.2.2.1 ∧ σ.sl 6 = .int .i64 ((p.2.1 - p.2.2.1 : Nat) : Int) ∧ σ.sl 3 = .hd 768 1 0 rs.length false ∧ (σ.en 768).live = true ∧ (σ.en 768).gen = 1 ∧ (σ.en 768).frz = false ∧ (σ.en 768).sz = 1 ∧ (σ.en 768).elems = rs.map rO ∧ σ.sl 5 = .hd 320 p.2.2.2.2.2 0 p.2.1 false ∧ (σ.en 320).live = true ∧ (σ.en 320).gen = p.2.2.2.2.2 ∧ (σ.en 320).frz = false ∧ (σ.en 320).sz = 2 ∧ (σ.en 320).elems = p.2.2.2.2.1.map sA) (fun p => rs.length - p.2.1) (rs.length, 0, 0, 0, [], 1) 5 2 (by simp [put_sl, put_en, put_none, init_sl, fresh_sl, fresh_en, ent_sl, ent_en, init_en]) (by simp [put_sl, put_en, put_none, init_sl, fresh_sl, fresh_en, ent_sl, ent_en, init_en, takeRes, takeV, takeLeaf, eid]) ?_
  rintro ⟨f, i, first, t, out, γ⟩ σ ⟨⟨hi, hf, hfi, hol, ht0, hb1, hb2, hW⟩, e8, e7, e6, e3, m1, m2, m3, m4, m5, e5, l1, l2, l3, l4, l5⟩
  dsimp only at hi hf hfi hol ht0 hb1 hb2 hW e8 e7 e6 e3 m1 m2 m3 m4 m5 e5 l1 l2 l3 l4 l5
  by_cases hlt : i < rs.length
  · obtain ⟨F, hF⟩ : ∃ F, (if nwP rs i then i else first) = F := ⟨_, rfl⟩
    obtain ⟨T, hT⟩ : ∃ T, (if nwP rs i then 0 else t) = T := ⟨_, rfl⟩
    obtain ⟨d, hD⟩ : ∃ d, i - F = d := ⟨_, rfl⟩
    have hTb : -(9999 * (i : Int)) ≤ T ∧ T ≤ 9999 * (i : Int) := by rw [← hT]; split <;> omega
    have g0 : ((i : Int) < rs.length) = True := eq_true (by omega)
    have g1 : (i < rs.length) = True := eq_true (by omega)
    have hmi : rs[i]! ∈ rs := by rw [getElem!_pos rs i hlt]; exact List.getElem_mem _
    have hwi := hw _ hmi
    obtain ⟨c0, c1, c2, d0, d1, d2⟩ := winLens hwi
    have hFl : F ≤ i := by rw [← hF]; split <;> omega
    by_cases hz : i = 0
    · have z0 : ((0 : Int) < i) = False := eq_false (by omega)
      have hn : nwP rs i := .inl hz
      have hFi : F = i := by rw [← hF, if_pos hn]
      have hDi : d = i - first := by omega
      have hTi : T = t := by rw [← hT, if_pos hn, ht0 hz]
      simp only [vmA, Nat.reduceEqDiff, reduceIte, Nat.reduceAdd, Nat.reduceBEq, reduceCtorEq, Nat.reduceLT, Int.reduceLE, Int.reduceLT, Int.reduceEq, Nat.reduceMul, Nat.reduceLeDiff, e8, e7, e6, e3, m1, m2, m3, m4, m5, e5, l1, l2, l3, l4, l5, List.length_map, rO, vA, sA, Int.toNat_zero, Int.toNat_natCast, show Int.toNat 2 = 2 from rfl, g0, g1, c0, c1, c2, d0, d1, d2, z0]
      refine WT_loop (fun (j : Nat) σ => (i ≤ j ∧ j ≤ rs.length ∧ (∀ m, i ≤ m → m < j → rowCmp rs[i]! rs[m]! = 0) ∧ -(9999 * (j : Int)) ≤ gTot rs i j T ∧ gTot rs i j T ≤ 9999 * (j : Int)) ∧ σ.sl 9 = .int .i64 j ∧ σ.sl 7 = .int .i64 (gTot rs i j T) ∧ σ.sl 6 = .int .i64 d ∧ σ.sl 8 = .int .i64 i ∧ σ.sl 3 = .hd 768 1 0 rs.length false ∧ (σ.en 768).live = true ∧ (σ.en 768).gen = 1 ∧ (σ.en 768).frz = false ∧ (σ.en 768).sz = 1 ∧ (σ.en 768).elems = rs.map rO ∧ σ.sl 5 = .hd 320 γ 0 i false ∧ (σ.en 320).live = true ∧ (σ.en 320).gen = γ ∧ (σ.en 320).frz = false ∧ (σ.en 320).sz = 2 ∧ (σ.en 320).elems = out.map sA) (fun j => rs.length - j) i ⟨⟨Nat.le_refl _, hi, fun m h1 h2 => absurd h1 (by omega), by rw [gTot_self]; exact hTb.1, by rw [gTot_self]; exact hTb.2⟩, by simp [put_sl, put_en, put_none, init_sl, fresh_sl, fresh_en, ent_sl, ent_en, init_en], by simp [put_sl, put_en, put_none, init_sl, fresh_sl, fresh_en, ent_sl, ent_en, init_en, e7, hTi, gTot_self], by simp [put_sl, put_en, put_none, init_sl, fresh_sl, fresh_en, ent_sl, ent_en, init_en, e6, hDi], by simp [put_sl, put_en, put_none, init_sl, fresh_sl, fresh_en, ent_sl, ent_en, init_en, e8], by simp [put_sl, put_en, put_none, init_sl, fresh_sl, fresh_en, ent_sl, ent_en, init_en, e3], by simp [put_sl, put_en, put_none, init_sl, fresh_sl, fresh_en, ent_sl, ent_en, init_en, m1], by simp [put_sl, put_en, put_none, init_sl, fresh_sl, fresh_en, ent_sl, ent_en, init_en, m2], by simp [put_sl, put_en, put_none, init_sl, fresh_sl, fresh_en, ent_sl, ent_en, init_en, m3], by simp [put_sl, put_en, put_none, init_sl, fresh_sl, fresh_en, ent_sl, ent_en, init_en, m4], by simp [put_sl, put_en, put_none, init_sl, fresh_sl, fresh_en, ent_sl, ent_en, init_en, m5], by simp [put_sl, put_en, put_none, init_sl, fresh_sl, fresh_en, ent_sl, ent_en, init_en, e5], by simp [put_sl, put_en, put_none, init_sl, fresh_sl, fresh_en, ent_sl, ent_en, init_en, l1], by simp [put_sl, put_en, put_none, init_sl, fresh_sl, fresh_en, ent_sl, ent_en, init_en, l2], by simp [put_sl, put_en, put_none, init_sl, fresh_sl, fresh_en, ent_sl, ent_en, init_en, l3], by simp [put_sl, put_en, put_none, init_sl, fresh_sl, fresh_en, ent_sl, ent_en, init_en, l4], by simp [put_sl, put_en, put_none, init_sl, fresh_sl, fresh_en, ent_sl, ent_en, init_en, l5]⟩ ?_
      clear e8 e7 e6 e3 m1 m2 m3 m4 m5 e5 l1 l2 l3 l4 l5
      rintro j σ ⟨⟨hij, hj, hsame, hg1, hg2⟩, e9, e7, e6, e8, e3, m1, m2, m3, m4, m5, e5, l1, l2, l3, l4, l5⟩
      by_cases hjn : j < rs.length
      · have p0 : ((j : Int) < rs.length) = True := eq_true (by omega)
        have p1 : (j < rs.length) = True := eq_true (by omega)
        have hmj : rs[j]! ∈ rs := by rw [getElem!_pos rs j hjn]; exact List.getElem_mem _
        have hwj := hw _ hmj
        obtain ⟨s0, s1, s2, t0, t1, t2⟩ := winLens hwj
        simp only [vmA, Nat.reduceEqDiff, reduceIte, Nat.reduceAdd, Nat.reduceBEq, reduceCtorEq, Nat.reduceLT, Int.reduceLE, Int.reduceLT, Int.reduceEq, Nat.reduceMul, Nat.reduceLeDiff, e9, e8, e7, e6, e3, m1, m2, m3, m4, m5, e5, l1, l2, l3, l4, l5, List.length_map, rO, vA, sA, Int.toNat_zero, Int.toNat_natCast, show Int.toNat 2 = 2 from rfl, p0, p1, g0, g1]
        refine callD (f51 rs[i]! rs[j]! false false (by have := hwi.1; omega) (by have := hwj.1; omega)) ?_
        simp only [vmA, Nat.reduceEqDiff, reduceIte, Nat.reduceAdd, Nat.reduceBEq, reduceCtorEq, Nat.reduceLT, Int.reduceLE, Int.reduceLT, Int.reduceEq, Nat.reduceMul, Nat.reduceLeDiff, e9, e8, e7, e6, e3, m1, m2, m3, m4, m5, e5, l1, l2, l3, l4, l5, List.length_map, rO, vA, sA, Int.toNat_zero, Int.toNat_natCast, show Int.toNat 2 = 2 from rfl, p0, p1, g0, g1, s0, s1, s2, t0, t1, t2]
        refine ⟨fun h0 => ?_, fun hne => ?_⟩
        · have hst := gTot_step (t := T) hij hjn
          have hsb := sAdd_bd hwj hg1 hg2 (by omega)
          rw [sAdd_wr hwj (by omega) (by omega), wr (by omega)]
          exact ⟨j + 1, ⟨⟨by omega, by omega, fun m h1 h2 => by
            by_cases hmj2 : m = j
            · rw [hmj2]; exact h0
            · exact hsame m h1 (by omega), by rw [hst]; omega, by rw [hst]; omega⟩, leafJ (by omega), leafJ hst.symm⟩, by omega⟩
        · have hex : j = rs.length ∨ ¬ rowCmp rs[i]! rs[j]! = 0 := (.inr hne)
          have hge : gEnd rs i = j := gEnd_eq hij hj hsame hex
          have hij' : i < j := by
            rcases Nat.lt_or_ge i j with h | h
            · exact h
            · obtain rfl : j = i := by omega
              exact hex.elim (fun h => absurd h (by omega)) (fun h => absurd (rowCmp_self _) h)
          have hst := wRun_step (f := f - 1) (first := first) (t := t) hlt hge
          rw [hF, hT, hD, show f - 1 + 1 = f by omega] at hst
          have q1 : IntKind.i64.wrap ((j : Int) - i) = ((j - i : Nat) : Int) := by rw [wr (by omega)]; omega
          have q2 : IntKind.i64.wrap ((d : Int) + 1) = (d : Int) + 1 := wr (by omega)
          have q3 : IntKind.i64.wrap ((d : Int) + ((j - i : Nat) : Int)) = ((j - F : Nat) : Int) := by rw [wr (by omega)]; omega
          simp only [vmA, Nat.reduceEqDiff, reduceIte, Nat.reduceAdd, Nat.reduceBEq, reduceCtorEq, Nat.reduceLT, Int.reduceLE, Int.reduceLT, Int.reduceEq, Nat.reduceMul, Nat.reduceLeDiff, e9, e8, e7, e6, e3, m1, m2, m3, m4, m5, e5, l1, l2, l3, l4, l5, List.length_map, rO, vA, sA, Int.toNat_zero, Int.toNat_natCast, show Int.toNat 2 = 2 from rfl, q1, q2, q3]
          obtain ⟨s, hs2⟩ : ∃ s : Spt, (⟨(d : Int) + 1, gTot rs i j T⟩ : Spt) = s := ⟨_, rfl⟩
          have h52 : Fx 52 [.fro none true [.agg [.int .i64 ((d : Int) + 1), .int .i64 (gTot rs i j T)]], .int .i64 ((j - i : Nat) : Int)] (.own 2 ((List.replicate (j - i) s).map sA)) := by
            have := f52 _ true (j - i) (by omega) (by omega) ((d : Int) + 1) (gTot rs i j T) rfl
            rw [List.map_replicate, ← hs2]
            exact this
          rw [hs2] at hst
          have hrl : (List.replicate (j - i) s).length = j - i := List.length_replicate
          obtain ⟨nw, hnw⟩ : ∃ nw, List.replicate (j - i) s = nw := ⟨_, rfl⟩
          rw [hnw] at h52 hst hrl
          refine callD h52 ?_
          have hrep : (∀ z ∈ nw.map sA, (leaves z).length = 2) = True := eq_true (fun z hz => by obtain ⟨y, _, rfl⟩ := List.mem_map.1 hz; rfl)
          have hno : (nw.map sA).all noOwnE = true := by rw [List.all_eq_true]; intro z hz; obtain ⟨y, _, rfl⟩ := List.mem_map.1 hz; rfl
          have hrt : List.take (j - i) (nw.map sA) = nw.map sA := List.take_of_length_le (by rw [List.length_map]; omega)
          simp only [vmA, Nat.reduceEqDiff, reduceIte, Nat.reduceAdd, Nat.reduceBEq, reduceCtorEq, Nat.reduceLT, Int.reduceLE, Int.reduceLT, Int.reduceEq, Nat.reduceMul, Nat.reduceLeDiff, behind_nf, hasFroL_sA, e9, e8, e7, e6, e3, m1, m2, m3, m4, m5, e5, l1, l2, l3, l4, l5, List.length_map, rO, vA, sA, Int.toNat_zero, Int.toNat_natCast, show Int.toNat 2 = 2 from rfl, q1, q2, q3, hol, hrl, hrep, hno, hrt]
          have hij2 : i + (j - i) = j := by omega
          rw [hij2, ← List.map_append]
          have hWk : (out ++ nw) ++ wRun rs (f - 1) j F (gTot rs i j T) = wRun rs rs.length 0 0 0 := by rw [List.append_assoc, ← hst]; exact hW
          exact ⟨⟨by omega, by omega⟩, (f - 1, j, F, gTot rs i j T, out ++ nw, γ + 1), ⟨⟨hj, by dsimp only; omega, by dsimp only; omega, by dsimp only; rw [List.length_append]; omega, fun h => absurd h (by dsimp only; omega), hg1, hg2, hWk⟩, rfl, rfl, rfl, rfl, rfl, rfl⟩, by dsimp only; omega⟩
      · have p0 : ((j : Int) < rs.length) = False := eq_false (by omega)
        simp only [vmA, Nat.reduceEqDiff, reduceIte, Nat.reduceAdd, Nat.reduceBEq, reduceCtorEq, Nat.reduceLT, Int.reduceLE, Int.reduceLT, Int.reduceEq, Nat.reduceMul, Nat.reduceLeDiff, e9, e8, e7, e6, e3, m1, m2, m3, m4, m5, e5, l1, l2, l3, l4, l5, List.length_map, rO, vA, sA, Int.toNat_zero, Int.toNat_natCast, show Int.toNat 2 = 2 from rfl, p0, g0, g1]
        have hex : j = rs.length ∨ ¬ rowCmp rs[i]! rs[j]! = 0 := (.inl (by omega))
        have hge : gEnd rs i = j := gEnd_eq hij hj hsame hex
        have hij' : i < j := by
          rcases Nat.lt_or_ge i j with h | h
          · exact h
          · obtain rfl : j = i := by omega
            exact hex.elim (fun h => absurd h (by omega)) (fun h => absurd (rowCmp_self _) h)
        have hst := wRun_step (f := f - 1) (first := first) (t := t) hlt hge
        rw [hF, hT, hD, show f - 1 + 1 = f by omega] at hst
        have q1 : IntKind.i64.wrap ((j : Int) - i) = ((j - i : Nat) : Int) := by rw [wr (by omega)]; omega
        have q2 : IntKind.i64.wrap ((d : Int) + 1) = (d : Int) + 1 := wr (by omega)
        have q3 : IntKind.i64.wrap ((d : Int) + ((j - i : Nat) : Int)) = ((j - F : Nat) : Int) := by rw [wr (by omega)]; omega
        simp only [vmA, Nat.reduceEqDiff, reduceIte, Nat.reduceAdd, Nat.reduceBEq, reduceCtorEq, Nat.reduceLT, Int.reduceLE, Int.reduceLT, Int.reduceEq, Nat.reduceMul, Nat.reduceLeDiff, e9, e8, e7, e6, e3, m1, m2, m3, m4, m5, e5, l1, l2, l3, l4, l5, List.length_map, rO, vA, sA, Int.toNat_zero, Int.toNat_natCast, show Int.toNat 2 = 2 from rfl, q1, q2, q3]
        obtain ⟨s, hs2⟩ : ∃ s : Spt, (⟨(d : Int) + 1, gTot rs i j T⟩ : Spt) = s := ⟨_, rfl⟩
        have h52 : Fx 52 [.fro none true [.agg [.int .i64 ((d : Int) + 1), .int .i64 (gTot rs i j T)]], .int .i64 ((j - i : Nat) : Int)] (.own 2 ((List.replicate (j - i) s).map sA)) := by
          have := f52 _ true (j - i) (by omega) (by omega) ((d : Int) + 1) (gTot rs i j T) rfl
          rw [List.map_replicate, ← hs2]
          exact this
        rw [hs2] at hst
        have hrl : (List.replicate (j - i) s).length = j - i := List.length_replicate
        obtain ⟨nw, hnw⟩ : ∃ nw, List.replicate (j - i) s = nw := ⟨_, rfl⟩
        rw [hnw] at h52 hst hrl
        refine callD h52 ?_
        have hrep : (∀ z ∈ nw.map sA, (leaves z).length = 2) = True := eq_true (fun z hz => by obtain ⟨y, _, rfl⟩ := List.mem_map.1 hz; rfl)
        have hno : (nw.map sA).all noOwnE = true := by rw [List.all_eq_true]; intro z hz; obtain ⟨y, _, rfl⟩ := List.mem_map.1 hz; rfl
        have hrt : List.take (j - i) (nw.map sA) = nw.map sA := List.take_of_length_le (by rw [List.length_map]; omega)
        simp only [vmA, Nat.reduceEqDiff, reduceIte, Nat.reduceAdd, Nat.reduceBEq, reduceCtorEq, Nat.reduceLT, Int.reduceLE, Int.reduceLT, Int.reduceEq, Nat.reduceMul, Nat.reduceLeDiff, behind_nf, hasFroL_sA, e9, e8, e7, e6, e3, m1, m2, m3, m4, m5, e5, l1, l2, l3, l4, l5, List.length_map, rO, vA, sA, Int.toNat_zero, Int.toNat_natCast, show Int.toNat 2 = 2 from rfl, q1, q2, q3, hol, hrl, hrep, hno, hrt]
        have hij2 : i + (j - i) = j := by omega
        rw [hij2, ← List.map_append]
        have hWk : (out ++ nw) ++ wRun rs (f - 1) j F (gTot rs i j T) = wRun rs rs.length 0 0 0 := by rw [List.append_assoc, ← hst]; exact hW
        exact ⟨⟨by omega, by omega⟩, (f - 1, j, F, gTot rs i j T, out ++ nw, γ + 1), ⟨⟨hj, by dsimp only; omega, by dsimp only; omega, by dsimp only; rw [List.length_append]; omega, fun h => absurd h (by dsimp only; omega), hg1, hg2, hWk⟩, rfl, rfl, rfl, rfl, rfl, rfl⟩, by dsimp only; omega⟩
    · have z0 : ((0 : Int) < i) = True := eq_true (by omega)
      have z1 : IntKind.i64.wrap ((i : Int) - 1) = ((i - 1 : Nat) : Int) := by rw [wr (by omega)]; omega
      have z2 : (((i - 1 : Nat) : Int) < rs.length) = True := eq_true (by omega)
      have z3 : (i - 1 < rs.length) = True := eq_true (by omega)
      have hmp : rs[i - 1]! ∈ rs := by rw [getElem!_pos rs (i - 1) (by omega)]; exact List.getElem_mem _
      obtain ⟨a0, a1, a2, b0, b1, b2⟩ := winLens (hw _ hmp)
      by_cases hv : vEq rs[i]![0]! rs[i - 1]![0]!
      · have hn : ¬ nwP rs i := fun h => by
          rcases h with h | h
          · exact hz h
          · exact h hv
        have hFi : F = first := by rw [← hF, if_neg hn]
        have hDi : d = i - first := by omega
        have hTi : T = t := by rw [← hT, if_neg hn]
        have hvT : (¬ vEq rs[i]![0]! rs[i - 1]![0]!) = False := eq_false (fun h => h hv)
        simp only [vmA, Nat.reduceEqDiff, reduceIte, Nat.reduceAdd, Nat.reduceBEq, reduceCtorEq, Nat.reduceLT, Int.reduceLE, Int.reduceLT, Int.reduceEq, Nat.reduceMul, Nat.reduceLeDiff, e8, e7, e6, e3, m1, m2, m3, m4, m5, e5, l1, l2, l3, l4, l5, List.length_map, rO, vA, sA, Int.toNat_zero, Int.toNat_natCast, show Int.toNat 2 = 2 from rfl, g0, g1, c0, c1, c2, d0, d1, d2, z0, z1, z2, z3, a0, a1, a2, b0, b1, b2, vEq_bool, hvT]
        refine WT_loop (fun (j : Nat) σ => (i ≤ j ∧ j ≤ rs.length ∧ (∀ m, i ≤ m → m < j → rowCmp rs[i]! rs[m]! = 0) ∧ -(9999 * (j : Int)) ≤ gTot rs i j T ∧ gTot rs i j T ≤ 9999 * (j : Int)) ∧ σ.sl 9 = .int .i64 j ∧ σ.sl 7 = .int .i64 (gTot rs i j T) ∧ σ.sl 6 = .int .i64 d ∧ σ.sl 8 = .int .i64 i ∧ σ.sl 3 = .hd 768 1 0 rs.length false ∧ (σ.en 768).live = true ∧ (σ.en 768).gen = 1 ∧ (σ.en 768).frz = false ∧ (σ.en 768).sz = 1 ∧ (σ.en 768).elems = rs.map rO ∧ σ.sl 5 = .hd 320 γ 0 i false ∧ (σ.en 320).live = true ∧ (σ.en 320).gen = γ ∧ (σ.en 320).frz = false ∧ (σ.en 320).sz = 2 ∧ (σ.en 320).elems = out.map sA) (fun j => rs.length - j) i ⟨⟨Nat.le_refl _, hi, fun m h1 h2 => absurd h1 (by omega), by rw [gTot_self]; exact hTb.1, by rw [gTot_self]; exact hTb.2⟩, by simp [put_sl, put_en, put_none, init_sl, fresh_sl, fresh_en, ent_sl, ent_en, init_en], by simp [put_sl, put_en, put_none, init_sl, fresh_sl, fresh_en, ent_sl, ent_en, init_en, e7, hTi, gTot_self], by simp [put_sl, put_en, put_none, init_sl, fresh_sl, fresh_en, ent_sl, ent_en, init_en, e6, hDi], by simp [put_sl, put_en, put_none, init_sl, fresh_sl, fresh_en, ent_sl, ent_en, init_en, e8], by simp [put_sl, put_en, put_none, init_sl, fresh_sl, fresh_en, ent_sl, ent_en, init_en, e3], by simp [put_sl, put_en, put_none, init_sl, fresh_sl, fresh_en, ent_sl, ent_en, init_en, m1], by simp [put_sl, put_en, put_none, init_sl, fresh_sl, fresh_en, ent_sl, ent_en, init_en, m2], by simp [put_sl, put_en, put_none, init_sl, fresh_sl, fresh_en, ent_sl, ent_en, init_en, m3], by simp [put_sl, put_en, put_none, init_sl, fresh_sl, fresh_en, ent_sl, ent_en, init_en, m4], by simp [put_sl, put_en, put_none, init_sl, fresh_sl, fresh_en, ent_sl, ent_en, init_en, m5], by simp [put_sl, put_en, put_none, init_sl, fresh_sl, fresh_en, ent_sl, ent_en, init_en, e5], by simp [put_sl, put_en, put_none, init_sl, fresh_sl, fresh_en, ent_sl, ent_en, init_en, l1], by simp [put_sl, put_en, put_none, init_sl, fresh_sl, fresh_en, ent_sl, ent_en, init_en, l2], by simp [put_sl, put_en, put_none, init_sl, fresh_sl, fresh_en, ent_sl, ent_en, init_en, l3], by simp [put_sl, put_en, put_none, init_sl, fresh_sl, fresh_en, ent_sl, ent_en, init_en, l4], by simp [put_sl, put_en, put_none, init_sl, fresh_sl, fresh_en, ent_sl, ent_en, init_en, l5]⟩ ?_
        clear e8 e7 e6 e3 m1 m2 m3 m4 m5 e5 l1 l2 l3 l4 l5
        rintro j σ ⟨⟨hij, hj, hsame, hg1, hg2⟩, e9, e7, e6, e8, e3, m1, m2, m3, m4, m5, e5, l1, l2, l3, l4, l5⟩
        by_cases hjn : j < rs.length
        · have p0 : ((j : Int) < rs.length) = True := eq_true (by omega)
          have p1 : (j < rs.length) = True := eq_true (by omega)
          have hmj : rs[j]! ∈ rs := by rw [getElem!_pos rs j hjn]; exact List.getElem_mem _
          have hwj := hw _ hmj
          obtain ⟨s0, s1, s2, t0, t1, t2⟩ := winLens hwj
          simp only [vmA, Nat.reduceEqDiff, reduceIte, Nat.reduceAdd, Nat.reduceBEq, reduceCtorEq, Nat.reduceLT, Int.reduceLE, Int.reduceLT, Int.reduceEq, Nat.reduceMul, Nat.reduceLeDiff, e9, e8, e7, e6, e3, m1, m2, m3, m4, m5, e5, l1, l2, l3, l4, l5, List.length_map, rO, vA, sA, Int.toNat_zero, Int.toNat_natCast, show Int.toNat 2 = 2 from rfl, p0, p1, g0, g1]
          refine callD (f51 rs[i]! rs[j]! false false (by have := hwi.1; omega) (by have := hwj.1; omega)) ?_
          simp only [vmA, Nat.reduceEqDiff, reduceIte, Nat.reduceAdd, Nat.reduceBEq, reduceCtorEq, Nat.reduceLT, Int.reduceLE, Int.reduceLT, Int.reduceEq, Nat.reduceMul, Nat.reduceLeDiff, e9, e8, e7, e6, e3, m1, m2, m3, m4, m5, e5, l1, l2, l3, l4, l5, List.length_map, rO, vA, sA, Int.toNat_zero, Int.toNat_natCast, show Int.toNat 2 = 2 from rfl, p0, p1, g0, g1, s0, s1, s2, t0, t1, t2]
          refine ⟨fun h0 => ?_, fun hne => ?_⟩
          · have hst := gTot_step (t := T) hij hjn
            have hsb := sAdd_bd hwj hg1 hg2 (by omega)
            rw [sAdd_wr hwj (by omega) (by omega), wr (by omega)]
            exact ⟨j + 1, ⟨⟨by omega, by omega, fun m h1 h2 => by
              by_cases hmj2 : m = j
              · rw [hmj2]; exact h0
              · exact hsame m h1 (by omega), by rw [hst]; omega, by rw [hst]; omega⟩, leafJ (by omega), leafJ hst.symm⟩, by omega⟩
          · have hex : j = rs.length ∨ ¬ rowCmp rs[i]! rs[j]! = 0 := (.inr hne)
            have hge : gEnd rs i = j := gEnd_eq hij hj hsame hex
            have hij' : i < j := by
              rcases Nat.lt_or_ge i j with h | h
              · exact h
              · obtain rfl : j = i := by omega
                exact hex.elim (fun h => absurd h (by omega)) (fun h => absurd (rowCmp_self _) h)
            have hst := wRun_step (f := f - 1) (first := first) (t := t) hlt hge
            rw [hF, hT, hD, show f - 1 + 1 = f by omega] at hst
            have q1 : IntKind.i64.wrap ((j : Int) - i) = ((j - i : Nat) : Int) := by rw [wr (by omega)]; omega
            have q2 : IntKind.i64.wrap ((d : Int) + 1) = (d : Int) + 1 := wr (by omega)
            have q3 : IntKind.i64.wrap ((d : Int) + ((j - i : Nat) : Int)) = ((j - F : Nat) : Int) := by rw [wr (by omega)]; omega
            simp only [vmA, Nat.reduceEqDiff, reduceIte, Nat.reduceAdd, Nat.reduceBEq, reduceCtorEq, Nat.reduceLT, Int.reduceLE, Int.reduceLT, Int.reduceEq, Nat.reduceMul, Nat.reduceLeDiff, e9, e8, e7, e6, e3, m1, m2, m3, m4, m5, e5, l1, l2, l3, l4, l5, List.length_map, rO, vA, sA, Int.toNat_zero, Int.toNat_natCast, show Int.toNat 2 = 2 from rfl, q1, q2, q3]
            obtain ⟨s, hs2⟩ : ∃ s : Spt, (⟨(d : Int) + 1, gTot rs i j T⟩ : Spt) = s := ⟨_, rfl⟩
            have h52 : Fx 52 [.fro none true [.agg [.int .i64 ((d : Int) + 1), .int .i64 (gTot rs i j T)]], .int .i64 ((j - i : Nat) : Int)] (.own 2 ((List.replicate (j - i) s).map sA)) := by
              have := f52 _ true (j - i) (by omega) (by omega) ((d : Int) + 1) (gTot rs i j T) rfl
              rw [List.map_replicate, ← hs2]
              exact this
            rw [hs2] at hst
            have hrl : (List.replicate (j - i) s).length = j - i := List.length_replicate
            obtain ⟨nw, hnw⟩ : ∃ nw, List.replicate (j - i) s = nw := ⟨_, rfl⟩
            rw [hnw] at h52 hst hrl
            refine callD h52 ?_
            have hrep : (∀ z ∈ nw.map sA, (leaves z).length = 2) = True := eq_true (fun z hz => by obtain ⟨y, _, rfl⟩ := List.mem_map.1 hz; rfl)
            have hno : (nw.map sA).all noOwnE = true := by rw [List.all_eq_true]; intro z hz; obtain ⟨y, _, rfl⟩ := List.mem_map.1 hz; rfl
            have hrt : List.take (j - i) (nw.map sA) = nw.map sA := List.take_of_length_le (by rw [List.length_map]; omega)
            simp only [vmA, Nat.reduceEqDiff, reduceIte, Nat.reduceAdd, Nat.reduceBEq, reduceCtorEq, Nat.reduceLT, Int.reduceLE, Int.reduceLT, Int.reduceEq, Nat.reduceMul, Nat.reduceLeDiff, behind_nf, hasFroL_sA, e9, e8, e7, e6, e3, m1, m2, m3, m4, m5, e5, l1, l2, l3, l4, l5, List.length_map, rO, vA, sA, Int.toNat_zero, Int.toNat_natCast, show Int.toNat 2 = 2 from rfl, q1, q2, q3, hol, hrl, hrep, hno, hrt]
            have hij2 : i + (j - i) = j := by omega
            rw [hij2, ← List.map_append]
            have hWk : (out ++ nw) ++ wRun rs (f - 1) j F (gTot rs i j T) = wRun rs rs.length 0 0 0 := by rw [List.append_assoc, ← hst]; exact hW
            exact ⟨⟨by omega, by omega⟩, (f - 1, j, F, gTot rs i j T, out ++ nw, γ + 1), ⟨⟨hj, by dsimp only; omega, by dsimp only; omega, by dsimp only; rw [List.length_append]; omega, fun h => absurd h (by dsimp only; omega), hg1, hg2, hWk⟩, rfl, rfl, rfl, rfl, rfl, rfl⟩, by dsimp only; omega⟩
        · have p0 : ((j : Int) < rs.length) = False := eq_false (by omega)
          simp only [vmA, Nat.reduceEqDiff, reduceIte, Nat.reduceAdd, Nat.reduceBEq, reduceCtorEq, Nat.reduceLT, Int.reduceLE, Int.reduceLT, Int.reduceEq, Nat.reduceMul, Nat.reduceLeDiff, e9, e8, e7, e6, e3, m1, m2, m3, m4, m5, e5, l1, l2, l3, l4, l5, List.length_map, rO, vA, sA, Int.toNat_zero, Int.toNat_natCast, show Int.toNat 2 = 2 from rfl, p0, g0, g1]
          have hex : j = rs.length ∨ ¬ rowCmp rs[i]! rs[j]! = 0 := (.inl (by omega))
          have hge : gEnd rs i = j := gEnd_eq hij hj hsame hex
          have hij' : i < j := by
            rcases Nat.lt_or_ge i j with h | h
            · exact h
            · obtain rfl : j = i := by omega
              exact hex.elim (fun h => absurd h (by omega)) (fun h => absurd (rowCmp_self _) h)
          have hst := wRun_step (f := f - 1) (first := first) (t := t) hlt hge
          rw [hF, hT, hD, show f - 1 + 1 = f by omega] at hst
          have q1 : IntKind.i64.wrap ((j : Int) - i) = ((j - i : Nat) : Int) := by rw [wr (by omega)]; omega
          have q2 : IntKind.i64.wrap ((d : Int) + 1) = (d : Int) + 1 := wr (by omega)
          have q3 : IntKind.i64.wrap ((d : Int) + ((j - i : Nat) : Int)) = ((j - F : Nat) : Int) := by rw [wr (by omega)]; omega
          simp only [vmA, Nat.reduceEqDiff, reduceIte, Nat.reduceAdd, Nat.reduceBEq, reduceCtorEq, Nat.reduceLT, Int.reduceLE, Int.reduceLT, Int.reduceEq, Nat.reduceMul, Nat.reduceLeDiff, e9, e8, e7, e6, e3, m1, m2, m3, m4, m5, e5, l1, l2, l3, l4, l5, List.length_map, rO, vA, sA, Int.toNat_zero, Int.toNat_natCast, show Int.toNat 2 = 2 from rfl, q1, q2, q3]
          obtain ⟨s, hs2⟩ : ∃ s : Spt, (⟨(d : Int) + 1, gTot rs i j T⟩ : Spt) = s := ⟨_, rfl⟩
          have h52 : Fx 52 [.fro none true [.agg [.int .i64 ((d : Int) + 1), .int .i64 (gTot rs i j T)]], .int .i64 ((j - i : Nat) : Int)] (.own 2 ((List.replicate (j - i) s).map sA)) := by
            have := f52 _ true (j - i) (by omega) (by omega) ((d : Int) + 1) (gTot rs i j T) rfl
            rw [List.map_replicate, ← hs2]
            exact this
          rw [hs2] at hst
          have hrl : (List.replicate (j - i) s).length = j - i := List.length_replicate
          obtain ⟨nw, hnw⟩ : ∃ nw, List.replicate (j - i) s = nw := ⟨_, rfl⟩
          rw [hnw] at h52 hst hrl
          refine callD h52 ?_
          have hrep : (∀ z ∈ nw.map sA, (leaves z).length = 2) = True := eq_true (fun z hz => by obtain ⟨y, _, rfl⟩ := List.mem_map.1 hz; rfl)
          have hno : (nw.map sA).all noOwnE = true := by rw [List.all_eq_true]; intro z hz; obtain ⟨y, _, rfl⟩ := List.mem_map.1 hz; rfl
          have hrt : List.take (j - i) (nw.map sA) = nw.map sA := List.take_of_length_le (by rw [List.length_map]; omega)
          simp only [vmA, Nat.reduceEqDiff, reduceIte, Nat.reduceAdd, Nat.reduceBEq, reduceCtorEq, Nat.reduceLT, Int.reduceLE, Int.reduceLT, Int.reduceEq, Nat.reduceMul, Nat.reduceLeDiff, behind_nf, hasFroL_sA, e9, e8, e7, e6, e3, m1, m2, m3, m4, m5, e5, l1, l2, l3, l4, l5, List.length_map, rO, vA, sA, Int.toNat_zero, Int.toNat_natCast, show Int.toNat 2 = 2 from rfl, q1, q2, q3, hol, hrl, hrep, hno, hrt]
          have hij2 : i + (j - i) = j := by omega
          rw [hij2, ← List.map_append]
          have hWk : (out ++ nw) ++ wRun rs (f - 1) j F (gTot rs i j T) = wRun rs rs.length 0 0 0 := by rw [List.append_assoc, ← hst]; exact hW
          exact ⟨⟨by omega, by omega⟩, (f - 1, j, F, gTot rs i j T, out ++ nw, γ + 1), ⟨⟨hj, by dsimp only; omega, by dsimp only; omega, by dsimp only; rw [List.length_append]; omega, fun h => absurd h (by dsimp only; omega), hg1, hg2, hWk⟩, rfl, rfl, rfl, rfl, rfl, rfl⟩, by dsimp only; omega⟩
      · have hn : nwP rs i := .inr hv
        have hFi : F = i := by rw [← hF, if_pos hn]
        have hDi : d = 0 := by omega
        have hTi : T = 0 := by rw [← hT, if_pos hn]
        have hvT : (¬ vEq rs[i]![0]! rs[i - 1]![0]!) = True := eq_true hv
        simp only [vmA, Nat.reduceEqDiff, reduceIte, Nat.reduceAdd, Nat.reduceBEq, reduceCtorEq, Nat.reduceLT, Int.reduceLE, Int.reduceLT, Int.reduceEq, Nat.reduceMul, Nat.reduceLeDiff, e8, e7, e6, e3, m1, m2, m3, m4, m5, e5, l1, l2, l3, l4, l5, List.length_map, rO, vA, sA, Int.toNat_zero, Int.toNat_natCast, show Int.toNat 2 = 2 from rfl, g0, g1, c0, c1, c2, d0, d1, d2, z0, z1, z2, z3, a0, a1, a2, b0, b1, b2, vEq_bool, hvT]
        refine WT_loop (fun (j : Nat) σ => (i ≤ j ∧ j ≤ rs.length ∧ (∀ m, i ≤ m → m < j → rowCmp rs[i]! rs[m]! = 0) ∧ -(9999 * (j : Int)) ≤ gTot rs i j T ∧ gTot rs i j T ≤ 9999 * (j : Int)) ∧ σ.sl 9 = .int .i64 j ∧ σ.sl 7 = .int .i64 (gTot rs i j T) ∧ σ.sl 6 = .int .i64 d ∧ σ.sl 8 = .int .i64 i ∧ σ.sl 3 = .hd 768 1 0 rs.length false ∧ (σ.en 768).live = true ∧ (σ.en 768).gen = 1 ∧ (σ.en 768).frz = false ∧ (σ.en 768).sz = 1 ∧ (σ.en 768).elems = rs.map rO ∧ σ.sl 5 = .hd 320 γ 0 i false ∧ (σ.en 320).live = true ∧ (σ.en 320).gen = γ ∧ (σ.en 320).frz = false ∧ (σ.en 320).sz = 2 ∧ (σ.en 320).elems = out.map sA) (fun j => rs.length - j) i ⟨⟨Nat.le_refl _, hi, fun m h1 h2 => absurd h1 (by omega), by rw [gTot_self]; exact hTb.1, by rw [gTot_self]; exact hTb.2⟩, by simp [put_sl, put_en, put_none, init_sl, fresh_sl, fresh_en, ent_sl, ent_en, init_en], by simp [put_sl, put_en, put_none, init_sl, fresh_sl, fresh_en, ent_sl, ent_en, init_en, e7, hTi, gTot_self], by simp [put_sl, put_en, put_none, init_sl, fresh_sl, fresh_en, ent_sl, ent_en, init_en, e6, hDi], by simp [put_sl, put_en, put_none, init_sl, fresh_sl, fresh_en, ent_sl, ent_en, init_en, e8], by simp [put_sl, put_en, put_none, init_sl, fresh_sl, fresh_en, ent_sl, ent_en, init_en, e3], by simp [put_sl, put_en, put_none, init_sl, fresh_sl, fresh_en, ent_sl, ent_en, init_en, m1], by simp [put_sl, put_en, put_none, init_sl, fresh_sl, fresh_en, ent_sl, ent_en, init_en, m2], by simp [put_sl, put_en, put_none, init_sl, fresh_sl, fresh_en, ent_sl, ent_en, init_en, m3], by simp [put_sl, put_en, put_none, init_sl, fresh_sl, fresh_en, ent_sl, ent_en, init_en, m4], by simp [put_sl, put_en, put_none, init_sl, fresh_sl, fresh_en, ent_sl, ent_en, init_en, m5], by simp [put_sl, put_en, put_none, init_sl, fresh_sl, fresh_en, ent_sl, ent_en, init_en, e5], by simp [put_sl, put_en, put_none, init_sl, fresh_sl, fresh_en, ent_sl, ent_en, init_en, l1], by simp [put_sl, put_en, put_none, init_sl, fresh_sl, fresh_en, ent_sl, ent_en, init_en, l2], by simp [put_sl, put_en, put_none, init_sl, fresh_sl, fresh_en, ent_sl, ent_en, init_en, l3], by simp [put_sl, put_en, put_none, init_sl, fresh_sl, fresh_en, ent_sl, ent_en, init_en, l4], by simp [put_sl, put_en, put_none, init_sl, fresh_sl, fresh_en, ent_sl, ent_en, init_en, l5]⟩ ?_
        clear e8 e7 e6 e3 m1 m2 m3 m4 m5 e5 l1 l2 l3 l4 l5
        rintro j σ ⟨⟨hij, hj, hsame, hg1, hg2⟩, e9, e7, e6, e8, e3, m1, m2, m3, m4, m5, e5, l1, l2, l3, l4, l5⟩
        by_cases hjn : j < rs.length
        · have p0 : ((j : Int) < rs.length) = True := eq_true (by omega)
          have p1 : (j < rs.length) = True := eq_true (by omega)
          have hmj : rs[j]! ∈ rs := by rw [getElem!_pos rs j hjn]; exact List.getElem_mem _
          have hwj := hw _ hmj
          obtain ⟨s0, s1, s2, t0, t1, t2⟩ := winLens hwj
          simp only [vmA, Nat.reduceEqDiff, reduceIte, Nat.reduceAdd, Nat.reduceBEq, reduceCtorEq, Nat.reduceLT, Int.reduceLE, Int.reduceLT, Int.reduceEq, Nat.reduceMul, Nat.reduceLeDiff, e9, e8, e7, e6, e3, m1, m2, m3, m4, m5, e5, l1, l2, l3, l4, l5, List.length_map, rO, vA, sA, Int.toNat_zero, Int.toNat_natCast, show Int.toNat 2 = 2 from rfl, p0, p1, g0, g1]
          refine callD (f51 rs[i]! rs[j]! false false (by have := hwi.1; omega) (by have := hwj.1; omega)) ?_
          simp only [vmA, Nat.reduceEqDiff, reduceIte, Nat.reduceAdd, Nat.reduceBEq, reduceCtorEq, Nat.reduceLT, Int.reduceLE, Int.reduceLT, Int.reduceEq, Nat.reduceMul, Nat.reduceLeDiff, e9, e8, e7, e6, e3, m1, m2, m3, m4, m5, e5, l1, l2, l3, l4, l5, List.length_map, rO, vA, sA, Int.toNat_zero, Int.toNat_natCast, show Int.toNat 2 = 2 from rfl, p0, p1, g0, g1, s0, s1, s2, t0, t1, t2]
          refine ⟨fun h0 => ?_, fun hne => ?_⟩
          · have hst := gTot_step (t := T) hij hjn
            have hsb := sAdd_bd hwj hg1 hg2 (by omega)
            rw [sAdd_wr hwj (by omega) (by omega), wr (by omega)]
            exact ⟨j + 1, ⟨⟨by omega, by omega, fun m h1 h2 => by
              by_cases hmj2 : m = j
              · rw [hmj2]; exact h0
              · exact hsame m h1 (by omega), by rw [hst]; omega, by rw [hst]; omega⟩, leafJ (by omega), leafJ hst.symm⟩, by omega⟩
          · have hex : j = rs.length ∨ ¬ rowCmp rs[i]! rs[j]! = 0 := (.inr hne)
            have hge : gEnd rs i = j := gEnd_eq hij hj hsame hex
            have hij' : i < j := by
              rcases Nat.lt_or_ge i j with h | h
              · exact h
              · obtain rfl : j = i := by omega
                exact hex.elim (fun h => absurd h (by omega)) (fun h => absurd (rowCmp_self _) h)
            have hst := wRun_step (f := f - 1) (first := first) (t := t) hlt hge
            rw [hF, hT, hD, show f - 1 + 1 = f by omega] at hst
            have q1 : IntKind.i64.wrap ((j : Int) - i) = ((j - i : Nat) : Int) := by rw [wr (by omega)]; omega
            have q2 : IntKind.i64.wrap ((d : Int) + 1) = (d : Int) + 1 := wr (by omega)
            have q3 : IntKind.i64.wrap ((d : Int) + ((j - i : Nat) : Int)) = ((j - F : Nat) : Int) := by rw [wr (by omega)]; omega
            simp only [vmA, Nat.reduceEqDiff, reduceIte, Nat.reduceAdd, Nat.reduceBEq, reduceCtorEq, Nat.reduceLT, Int.reduceLE, Int.reduceLT, Int.reduceEq, Nat.reduceMul, Nat.reduceLeDiff, e9, e8, e7, e6, e3, m1, m2, m3, m4, m5, e5, l1, l2, l3, l4, l5, List.length_map, rO, vA, sA, Int.toNat_zero, Int.toNat_natCast, show Int.toNat 2 = 2 from rfl, q1, q2, q3]
            obtain ⟨s, hs2⟩ : ∃ s : Spt, (⟨(d : Int) + 1, gTot rs i j T⟩ : Spt) = s := ⟨_, rfl⟩
            have h52 : Fx 52 [.fro none true [.agg [.int .i64 ((d : Int) + 1), .int .i64 (gTot rs i j T)]], .int .i64 ((j - i : Nat) : Int)] (.own 2 ((List.replicate (j - i) s).map sA)) := by
              have := f52 _ true (j - i) (by omega) (by omega) ((d : Int) + 1) (gTot rs i j T) rfl
              rw [List.map_replicate, ← hs2]
              exact this
            rw [hs2] at hst
            have hrl : (List.replicate (j - i) s).length = j - i := List.length_replicate
            obtain ⟨nw, hnw⟩ : ∃ nw, List.replicate (j - i) s = nw := ⟨_, rfl⟩
            rw [hnw] at h52 hst hrl
            refine callD h52 ?_
            have hrep : (∀ z ∈ nw.map sA, (leaves z).length = 2) = True := eq_true (fun z hz => by obtain ⟨y, _, rfl⟩ := List.mem_map.1 hz; rfl)
            have hno : (nw.map sA).all noOwnE = true := by rw [List.all_eq_true]; intro z hz; obtain ⟨y, _, rfl⟩ := List.mem_map.1 hz; rfl
            have hrt : List.take (j - i) (nw.map sA) = nw.map sA := List.take_of_length_le (by rw [List.length_map]; omega)
            simp only [vmA, Nat.reduceEqDiff, reduceIte, Nat.reduceAdd, Nat.reduceBEq, reduceCtorEq, Nat.reduceLT, Int.reduceLE, Int.reduceLT, Int.reduceEq, Nat.reduceMul, Nat.reduceLeDiff, behind_nf, hasFroL_sA, e9, e8, e7, e6, e3, m1, m2, m3, m4, m5, e5, l1, l2, l3, l4, l5, List.length_map, rO, vA, sA, Int.toNat_zero, Int.toNat_natCast, show Int.toNat 2 = 2 from rfl, q1, q2, q3, hol, hrl, hrep, hno, hrt]
            have hij2 : i + (j - i) = j := by omega
            rw [hij2, ← List.map_append]
            have hWk : (out ++ nw) ++ wRun rs (f - 1) j F (gTot rs i j T) = wRun rs rs.length 0 0 0 := by rw [List.append_assoc, ← hst]; exact hW
            exact ⟨⟨by omega, by omega⟩, (f - 1, j, F, gTot rs i j T, out ++ nw, γ + 1), ⟨⟨hj, by dsimp only; omega, by dsimp only; omega, by dsimp only; rw [List.length_append]; omega, fun h => absurd h (by dsimp only; omega), hg1, hg2, hWk⟩, rfl, rfl, rfl, rfl, rfl, rfl⟩, by dsimp only; omega⟩
        · have p0 : ((j : Int) < rs.length) = False := eq_false (by omega)
          simp only [vmA, Nat.reduceEqDiff, reduceIte, Nat.reduceAdd, Nat.reduceBEq, reduceCtorEq, Nat.reduceLT, Int.reduceLE, Int.reduceLT, Int.reduceEq, Nat.reduceMul, Nat.reduceLeDiff, e9, e8, e7, e6, e3, m1, m2, m3, m4, m5, e5, l1, l2, l3, l4, l5, List.length_map, rO, vA, sA, Int.toNat_zero, Int.toNat_natCast, show Int.toNat 2 = 2 from rfl, p0, g0, g1]
          have hex : j = rs.length ∨ ¬ rowCmp rs[i]! rs[j]! = 0 := (.inl (by omega))
          have hge : gEnd rs i = j := gEnd_eq hij hj hsame hex
          have hij' : i < j := by
            rcases Nat.lt_or_ge i j with h | h
            · exact h
            · obtain rfl : j = i := by omega
              exact hex.elim (fun h => absurd h (by omega)) (fun h => absurd (rowCmp_self _) h)
          have hst := wRun_step (f := f - 1) (first := first) (t := t) hlt hge
          rw [hF, hT, hD, show f - 1 + 1 = f by omega] at hst
          have q1 : IntKind.i64.wrap ((j : Int) - i) = ((j - i : Nat) : Int) := by rw [wr (by omega)]; omega
          have q2 : IntKind.i64.wrap ((d : Int) + 1) = (d : Int) + 1 := wr (by omega)
          have q3 : IntKind.i64.wrap ((d : Int) + ((j - i : Nat) : Int)) = ((j - F : Nat) : Int) := by rw [wr (by omega)]; omega
          simp only [vmA, Nat.reduceEqDiff, reduceIte, Nat.reduceAdd, Nat.reduceBEq, reduceCtorEq, Nat.reduceLT, Int.reduceLE, Int.reduceLT, Int.reduceEq, Nat.reduceMul, Nat.reduceLeDiff, e9, e8, e7, e6, e3, m1, m2, m3, m4, m5, e5, l1, l2, l3, l4, l5, List.length_map, rO, vA, sA, Int.toNat_zero, Int.toNat_natCast, show Int.toNat 2 = 2 from rfl, q1, q2, q3]
          obtain ⟨s, hs2⟩ : ∃ s : Spt, (⟨(d : Int) + 1, gTot rs i j T⟩ : Spt) = s := ⟨_, rfl⟩
          have h52 : Fx 52 [.fro none true [.agg [.int .i64 ((d : Int) + 1), .int .i64 (gTot rs i j T)]], .int .i64 ((j - i : Nat) : Int)] (.own 2 ((List.replicate (j - i) s).map sA)) := by
            have := f52 _ true (j - i) (by omega) (by omega) ((d : Int) + 1) (gTot rs i j T) rfl
            rw [List.map_replicate, ← hs2]
            exact this
          rw [hs2] at hst
          have hrl : (List.replicate (j - i) s).length = j - i := List.length_replicate
          obtain ⟨nw, hnw⟩ : ∃ nw, List.replicate (j - i) s = nw := ⟨_, rfl⟩
          rw [hnw] at h52 hst hrl
          refine callD h52 ?_
          have hrep : (∀ z ∈ nw.map sA, (leaves z).length = 2) = True := eq_true (fun z hz => by obtain ⟨y, _, rfl⟩ := List.mem_map.1 hz; rfl)
          have hno : (nw.map sA).all noOwnE = true := by rw [List.all_eq_true]; intro z hz; obtain ⟨y, _, rfl⟩ := List.mem_map.1 hz; rfl
          have hrt : List.take (j - i) (nw.map sA) = nw.map sA := List.take_of_length_le (by rw [List.length_map]; omega)
          simp only [vmA, Nat.reduceEqDiff, reduceIte, Nat.reduceAdd, Nat.reduceBEq, reduceCtorEq, Nat.reduceLT, Int.reduceLE, Int.reduceLT, Int.reduceEq, Nat.reduceMul, Nat.reduceLeDiff, behind_nf, hasFroL_sA, e9, e8, e7, e6, e3, m1, m2, m3, m4, m5, e5, l1, l2, l3, l4, l5, List.length_map, rO, vA, sA, Int.toNat_zero, Int.toNat_natCast, show Int.toNat 2 = 2 from rfl, q1, q2, q3, hol, hrl, hrep, hno, hrt]
          have hij2 : i + (j - i) = j := by omega
          rw [hij2, ← List.map_append]
          have hWk : (out ++ nw) ++ wRun rs (f - 1) j F (gTot rs i j T) = wRun rs rs.length 0 0 0 := by rw [List.append_assoc, ← hst]; exact hW
          exact ⟨⟨by omega, by omega⟩, (f - 1, j, F, gTot rs i j T, out ++ nw, γ + 1), ⟨⟨hj, by dsimp only; omega, by dsimp only; omega, by dsimp only; rw [List.length_append]; omega, fun h => absurd h (by dsimp only; omega), hg1, hg2, hWk⟩, rfl, rfl, rfl, rfl, rfl, rfl⟩, by dsimp only; omega⟩
  · have g0 : ((i : Int) < rs.length) = False := eq_false (by omega)
    rw [wRun_end hlt, List.append_nil] at hW
    obtain rfl : i = rs.length := by omega
    have hlm : (out.map sA).take rs.length = out.map sA := List.take_of_length_le (by rw [List.length_map]; omega)
    simp only [vmA, Nat.reduceEqDiff, reduceIte, Nat.reduceAdd, Nat.reduceBEq, reduceCtorEq, Nat.reduceLT, Int.reduceLE, Int.reduceLT, Int.reduceEq, Nat.reduceMul, Nat.reduceLeDiff, e8, e7, e6, e3, m1, m2, m3, m4, m5, e5, l1, l2, l3, l4, l5, List.length_map, rO, vA, sA, Int.toNat_zero, Int.toNat_natCast, show Int.toNat 2 = 2 from rfl, g0, hol, hlm, map_froize_sA]
    refine callD (f42 out false (by omega)) ?_
    simp only [vmA, Nat.reduceEqDiff, reduceIte, Nat.reduceAdd, Nat.reduceBEq, reduceCtorEq, Nat.reduceLT, Int.reduceLE, Int.reduceLT, Int.reduceEq, Nat.reduceMul, Nat.reduceLeDiff, behind_nf, hasFroL_sA, List.length_map]
    refine hQ' _ ?_
    simp only [vmA, Nat.reduceEqDiff, reduceIte, Nat.reduceAdd, Nat.reduceBEq, reduceCtorEq, Nat.reduceLT, Int.reduceLE, Int.reduceLT, Int.reduceEq, Nat.reduceMul, Nat.reduceLeDiff, Try.f28, retG, resL, St.closeVs, St.closeV, List.length_map, hlm]
    rw [hW]
theorem gEnd_le {rs : List (List Val)} {i : Nat} (hi : i ≤ rs.length) : i ≤ gEnd rs i ∧ gEnd rs i ≤ rs.length := by
  unfold gEnd
  have := (List.takeWhile_sublist (l := rs.drop i) (fun s => decide (rowCmp rs[i]! s = 0))).length_le
  rw [List.length_drop] at this
  omega
theorem wRun_len {rs : List (List Val)} : ∀ (f i first : Nat) (t : Int), i ≤ rs.length → (wRun rs f i first t).length ≤ rs.length - i
  | 0, _, _, _, _ => by simp [wRun]
  | f + 1, i, first, t, h => by
    by_cases hi : i < rs.length
    · obtain ⟨h1, h2⟩ := gEnd_le h
      rw [wRun, if_pos hi, List.length_append, List.length_replicate]
      have := wRun_len (rs := rs) f (gEnd rs i) (if nwP rs i then i else first) (gTot rs i (gEnd rs i) (if nwP rs i then 0 else t)) h2
      omega
    · rw [wRun_end hi]; simp
