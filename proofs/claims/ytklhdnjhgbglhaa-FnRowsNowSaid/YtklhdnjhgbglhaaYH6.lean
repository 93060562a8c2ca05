/- WALK of functions of the seat, or plain laws for it: each theorem f<k> says what function k returns, for every world and all arguments that stand for the values named. Conditions: none but those ahead of each theorem. -/
import Derived.Test.YtklhdnjhgbglhaaYP1
import Derived.Test.YtklhdnjhgbglhaaYB7
open Go Go.Vm Go.Proofs
set_option maxRecDepth 100000
set_option maxHeartbeats 8000000
set_option linter.unusedSimpArgs false
set_option linter.unusedVariables false
theorem f93 (t : Tx) (key : Int) (hs : t.ws.length ≤ 9223372036854775807) : FxR 93 [xA t, .int .i64 key] fun r l => (∃ n : Int, r = .int .i64 n ∧ -1 ≤ n) ∧ l = .und := by
  refine fn_ofR ⟨false, [], []⟩ Try.func93 (by kernel_rfl) rfl (by kernel_rfl) (by kernel_rfl) (Nat.le_of_ble_eq_true rfl) rfl fun Q hQ => ?_
  simp only [vmA, Nat.reduceEqDiff, reduceIte, Nat.reduceAdd, Nat.reduceBEq, reduceCtorEq, Nat.reduceLT, Int.reduceLE, Int.reduceLT, Int.reduceEq, Nat.reduceMul, Nat.reduceLeDiff, xA, List.length_map]
  refine WT_loop (fun (i : Nat) σ => (i ≤ t.ws.length) ∧ σ.sl 5 = .int .i64 i ∧ σ.sl 2 = .ptr 128 1 0 0 ∧ (σ.en 128).live = true ∧ (σ.en 128).gen = 1 ∧ (σ.en 128).frz = false ∧ (σ.en 128).sz = 5 ∧ (σ.en 128).elems = [xA t] ∧ σ.sl 1 = .int .i64 key) (fun i => t.ws.length - i) (0) ⟨Nat.zero_le _, by simp [put_sl, put_en, put_none, init_sl, fresh_sl, fresh_en, ent_sl, ent_en, init_en, xA], by simp [put_sl, put_en, put_none, init_sl, fresh_sl, fresh_en, ent_sl, ent_en, init_en, xA], by simp [put_sl, put_en, put_none, init_sl, fresh_sl, fresh_en, ent_sl, ent_en, init_en, xA], by simp [put_sl, put_en, put_none, init_sl, fresh_sl, fresh_en, ent_sl, ent_en, init_en, xA], by simp [put_sl, put_en, put_none, init_sl, fresh_sl, fresh_en, ent_sl, ent_en, init_en, xA], by simp [put_sl, put_en, put_none, init_sl, fresh_sl, fresh_en, ent_sl, ent_en, init_en, xA], by simp [put_sl, put_en, put_none, init_sl, fresh_sl, fresh_en, ent_sl, ent_en, init_en, xA], by simp [put_sl, put_en, put_none, init_sl, fresh_sl, fresh_en, ent_sl, ent_en, init_en, xA]⟩ ?_
  rintro i σ ⟨hi, e5, e2, m128a, m128b, m128c, m128d, m128e, e1⟩
  simp only [vmA, Nat.reduceEqDiff, reduceIte, Nat.reduceAdd, Nat.reduceBEq, reduceCtorEq, Nat.reduceLT, Int.reduceLE, Int.reduceLT, Int.reduceEq, Nat.reduceMul, Nat.reduceLeDiff, e5, e2, m128a, m128b, m128c, m128d, m128e, e1, xA, wA, List.length_map]
  refine ⟨fun h => ⟨h, by omega, fun he => ?_, fun hne => ?_⟩, fun h => ?_⟩
  · (refine hQ _ ?_; simp only [vmA, Nat.reduceEqDiff, reduceIte, Nat.reduceAdd, Nat.reduceBEq, reduceCtorEq, Nat.reduceLT, Int.reduceLE, Int.reduceLT, Int.reduceEq, Nat.reduceMul, Nat.reduceLeDiff, Try.f93, retG, resL, St.closeVs, St.closeV, e5, e2, m128a, m128b, m128c, m128d, m128e, e1])
    exact ⟨_, rfl, by omega⟩
  · rw [wr (by omega)]
    exact ⟨i + 1, ⟨by omega, rfl⟩, by omega⟩
  · (refine hQ _ ?_; simp only [vmA, Nat.reduceEqDiff, reduceIte, Nat.reduceAdd, Nat.reduceBEq, reduceCtorEq, Nat.reduceLT, Int.reduceLE, Int.reduceLT, Int.reduceEq, Nat.reduceMul, Nat.reduceLeDiff, Try.f93, retG, resL, St.closeVs, St.closeV, e5, e2, m128a, m128b, m128c, m128d, m128e, e1])
    exact ⟨_, rfl, by omega⟩
theorem wrtL_len (w : Wr) (t : Int) : ∀ (vs : List Ver) (d : Bool), (wrtL w t vs d).length ≤ vs.length + (if d then 0 else 1)
  | [], d => by cases d <;> simp [wrtL]
  | v :: vs, d => by
    have := wrtL_len w t vs (d || decide (w.key < v.key))
    rw [wrtL]
    cases d
    · by_cases h : w.key < v.key
      · simp [h] at this ⊢; omega
      · simp [h] at this ⊢; omega
    · simp at this ⊢; omega
theorem behind_yes {C : Cfg} {σ : St} {f : Nat} {xs : List AV} {dd : Option Tmp} {res : AV} (h : hasFro res = true) : behind C σ f xs dd res .und = takeRes dd (freezeL σ (lentL C σ f 0 xs)) res := by
  unfold behind
  rw [h, leftS_und]
  rfl
theorem f97 (vs : List Ver) (ws : List Wr) (c c2 : Bool) (t : Int) (hl : vs.length ≤ 1000) (hs : ∀ v ∈ vs, okR v.row) (hm : ∀ v ∈ vs, v.row.length ≤ 1048576) (hl2 : ws.length ≤ 1000) (hs2 : ∀ w ∈ ws, okW w) (hm2 : ∀ w ∈ ws, w.row.length ≤ 1048576) : FxR 97 [.fro none c (vs.map gA), .fro none c2 (ws.map wA), .int .i64 t] fun r l =>
    (∃ Z b, r = .tup [.own 4 Z, .bool b] ∧ ((b = false ∧ Z = []) ∨ (b = true ∧ Z.map froize = (wrtAll ws t vs).map gA ∧ verP vs ∧ wrsP ws ∧ (1 ≤ t ∧ t ≤ 40) ∧ (∀ k : Nat, k < 5 → lastS vs k < t) ∧ Z.length ≤ 60))) ∧ l = .und := by
  refine fn_ofR ⟨true, [], []⟩ Try.func97 (by kernel_rfl) rfl (by kernel_rfl) (by kernel_rfl) (Nat.le_of_ble_eq_true rfl) rfl fun Q hQ => ?_
  simp only [vmA, Nat.reduceEqDiff, reduceIte, Nat.reduceAdd, Nat.reduceBEq, reduceCtorEq, Nat.reduceLT, Int.reduceLE, Int.reduceLT, Int.reduceEq, Nat.reduceMul, Nat.reduceLeDiff, List.length_map]
  refine callD (f47 vs c (by omega) hs) ?_
  simp only [vmA, Nat.reduceEqDiff, reduceIte, Nat.reduceAdd, Nat.reduceBEq, reduceCtorEq, Nat.reduceLT, Int.reduceLE, Int.reduceLT, Int.reduceEq, Nat.reduceMul, Nat.reduceLeDiff, List.length_map]
  refine ⟨fun hv => ?_, fun hv => callD (f75 ws c2 (by omega) hs2) ?_⟩
  · (refine hQ _ ?_; simp only [vmA, Nat.reduceEqDiff, reduceIte, Nat.reduceAdd, Nat.reduceBEq, reduceCtorEq, Nat.reduceLT, Int.reduceLE, Int.reduceLT, Int.reduceEq, Nat.reduceMul, Nat.reduceLeDiff, Try.f97, retG, resL, St.closeVs, St.closeV])
    exact ⟨_, _, rfl, .inl ⟨rfl, rfl⟩⟩
  simp only [vmA, Nat.reduceEqDiff, reduceIte, Nat.reduceAdd, Nat.reduceBEq, reduceCtorEq, Nat.reduceLT, Int.reduceLE, Int.reduceLT, Int.reduceEq, Nat.reduceMul, Nat.reduceLeDiff, List.length_map]
  refine ⟨fun hw => ?_, fun hw => callD (f48 t 1 40) ?_⟩
  · (refine hQ _ ?_; simp only [vmA, Nat.reduceEqDiff, reduceIte, Nat.reduceAdd, Nat.reduceBEq, reduceCtorEq, Nat.reduceLT, Int.reduceLE, Int.reduceLT, Int.reduceEq, Nat.reduceMul, Nat.reduceLeDiff, Try.f97, retG, resL, St.closeVs, St.closeV])
    exact ⟨_, _, rfl, .inl ⟨rfl, rfl⟩⟩
  simp only [vmA, Nat.reduceEqDiff, reduceIte, Nat.reduceAdd, Nat.reduceBEq, reduceCtorEq, Nat.reduceLT, Int.reduceLE, Int.reduceLT, Int.reduceEq, Nat.reduceMul, Nat.reduceLeDiff, List.length_map]
  refine ⟨fun ht => ?_, fun ht => ?_⟩
  · (refine hQ _ ?_; simp only [vmA, Nat.reduceEqDiff, reduceIte, Nat.reduceAdd, Nat.reduceBEq, reduceCtorEq, Nat.reduceLT, Int.reduceLE, Int.reduceLT, Int.reduceEq, Nat.reduceMul, Nat.reduceLeDiff, Try.f97, retG, resL, St.closeVs, St.closeV])
    exact ⟨_, _, rfl, .inl ⟨rfl, rfl⟩⟩
  refine WT_loop (fun (k : Nat) σ => (k ≤ 5 ∧ (∀ j : Nat, j < k → lastS vs j < t)) ∧ σ.sl 8 = .int .i64 k ∧ σ.sl 0 = .fro none c (vs.map gA) ∧ σ.sl 1 = .fro none c2 (ws.map wA) ∧ σ.sl 2 = .int .i64 t) (fun k => 5 - k) (0) ⟨⟨Nat.zero_le _, by omega⟩, by simp [put_sl, put_en, put_none, init_sl, fresh_sl, fresh_en, ent_sl, ent_en, init_en], by simp [put_sl, put_en, put_none, init_sl, fresh_sl, fresh_en, ent_sl, ent_en, init_en], by simp [put_sl, put_en, put_none, init_sl, fresh_sl, fresh_en, ent_sl, ent_en, init_en], by simp [put_sl, put_en, put_none, init_sl, fresh_sl, fresh_en, ent_sl, ent_en, init_en]⟩ ?_
  rintro k σ ⟨hk, e8, e0, e1, e2⟩
  obtain ⟨hk, hlt⟩ := hk
  simp only [vmA, Nat.reduceEqDiff, reduceIte, Nat.reduceAdd, Nat.reduceBEq, reduceCtorEq, Nat.reduceLT, Int.reduceLE, Int.reduceLT, Int.reduceEq, Nat.reduceMul, Nat.reduceLeDiff, e8, e0, e1, e2, List.length_map]
  refine ⟨fun h5 => callD (f49 vs c k (by omega) hs) ?_, fun h5 => callD (f90 vs c (by omega) hm) ?_⟩
  · simp only [vmA, Nat.reduceEqDiff, reduceIte, Nat.reduceAdd, Nat.reduceBEq, reduceCtorEq, Nat.reduceLT, Int.reduceLE, Int.reduceLT, Int.reduceEq, Nat.reduceMul, Nat.reduceLeDiff, e8, e0, e1, e2, List.length_map]
    refine ⟨fun hge => ?_, fun hlt2 => ?_⟩
    · (refine hQ _ ?_; simp only [vmA, Nat.reduceEqDiff, reduceIte, Nat.reduceAdd, Nat.reduceBEq, reduceCtorEq, Nat.reduceLT, Int.reduceLE, Int.reduceLT, Int.reduceEq, Nat.reduceMul, Nat.reduceLeDiff, Try.f97, retG, resL, St.closeVs, St.closeV, e8, e0, e1, e2])
      exact ⟨_, _, rfl, .inl ⟨rfl, rfl⟩⟩
    · rw [wr (by omega)]
      refine ⟨k + 1, ⟨⟨by omega, fun j hj => ?_⟩, rfl⟩, by omega⟩
      rcases Nat.lt_or_eq_of_le (Nat.le_of_lt_succ hj) with h | rfl
      · exact hlt j h
      · omega
  · obtain rfl : k = 5 := by omega
    simp only [vmA, Nat.reduceEqDiff, reduceIte, Nat.reduceAdd, Nat.reduceBEq, reduceCtorEq, Nat.reduceLT, Int.reduceLE, Int.reduceLT, Int.reduceEq, Nat.reduceMul, Nat.reduceLeDiff, e8, e0, e1, e2, List.length_map]
    refine WT_loopR (fun (zz : Nat × Nat × List Ver × List AV) σ => (zz.1 ≤ ws.length ∧ wrtAll (ws.drop zz.1) t zz.2.2.1 = wrtAll ws t vs ∧ zz.2.2.2.map froize = zz.2.2.1.map gA ∧ zz.2.2.1.length ≤ vs.length + zz.1) ∧ σ.sl 10 = .int .i64 zz.1 ∧ σ.sl 1 = .fro none c2 (ws.map wA) ∧ σ.sl 2 = .int .i64 t ∧ σ.sl 9 = .hd 576 zz.2.1 0 (zz.2.2.2.length) false ∧ (σ.en 576).live = true ∧ (σ.en 576).gen = zz.2.1 ∧ (σ.en 576).frz = false ∧ (σ.en 576).sz = 4 ∧ (σ.en 576).elems = zz.2.2.2) (fun zz => ws.length - zz.1) 9 ?_ ?_
    · simp only [vmA, Nat.reduceEqDiff, reduceIte, Nat.reduceAdd, Nat.reduceBEq, reduceCtorEq, Nat.reduceLT, Int.reduceLE, Int.reduceLT, Int.reduceEq, Nat.reduceMul, Nat.reduceLeDiff, reown, e8, e0, e1, e2, List.length_map]
      refine ⟨(0, (σ.en 576).gen + 1, vs, vs.map gO), ⟨Nat.zero_le _, by simp, map_froize_gO vs, by simp⟩, rfl, ?_⟩
      simp
    clear e8 e0 e1 e2
    rintro ⟨i, γ, L, Z⟩ σ ⟨hi, e10, e1, e2, e9, m576a, m576b, m576c, m576d, m576e⟩
    try dsimp only at e10 e1 e2 e9 m576a m576b m576c m576d m576e hi
    obtain ⟨hi, hL, hZ, hn⟩ := hi
    have hZl : Z.length = L.length := by simpa using congrArg List.length hZ
    simp only [vmA, Nat.reduceEqDiff, reduceIte, Nat.reduceAdd, Nat.reduceBEq, reduceCtorEq, Nat.reduceLT, Int.reduceLE, Int.reduceLT, Int.reduceEq, Nat.reduceMul, Nat.reduceLeDiff, e10, e1, e2, e9, m576a, m576b, m576c, m576d, m576e, List.length_map, wA, List.take_length, hZ]
    refine ⟨fun h => ⟨h, by omega, ?_⟩, fun h => ?_⟩
    · have hmem : ws[i]! ∈ ws := by rw [getElem!_pos ws i (by omega)]; exact List.getElem_mem _
      refine callR (f107 L false ws[i]! t (by omega) (hm2 _ hmem)) ?_
      rintro _ _ ⟨⟨Z2, rfl, hZ2⟩, rfl⟩
      have hlen := wrtL_len ws[i]! t L ws[i]!.gone
      have hst : wrtAll (ws.drop i) t L = wrtAll (ws.drop (i + 1)) t (wrtL ws[i]! t L ws[i]!.gone) := by
        rw [List.drop_eq_getElem_cons (by omega : i < ws.length), getElem!_pos ws i (by omega)]; rfl
      rw [hst] at hL
      have hlen2 : (wrtL ws[i]! t L ws[i]!.gone).length ≤ vs.length + (i + 1) := by split at hlen <;> omega
      cases hb : hasFro.hasFroL Z2
      · simp only [vmA, Nat.reduceEqDiff, reduceIte, Nat.reduceAdd, Nat.reduceBEq, reduceCtorEq, Nat.reduceLT, Int.reduceLE, Int.reduceLT, Int.reduceEq, Nat.reduceMul, Nat.reduceLeDiff, e10, e1, e2, e9, m576a, m576b, m576c, m576d, m576e, List.length_map, reown, List.take_length, behind_nf, hasFro, hb]
        rw [wr (by omega)]
        exact ⟨(i + 1, _, wrtL ws[i]! t L ws[i]!.gone, Z2), ⟨⟨by dsimp only; omega, hL, hZ2, hlen2⟩, rfl, rfl, rfl, rfl⟩, by dsimp only; omega⟩
      · simp only [vmA, Nat.reduceEqDiff, reduceIte, Nat.reduceAdd, Nat.reduceBEq, reduceCtorEq, Nat.reduceLT, Int.reduceLE, Int.reduceLT, Int.reduceEq, Nat.reduceMul, Nat.reduceLeDiff, e10, e1, e2, e9, m576a, m576b, m576c, m576d, m576e, List.length_map, reown, List.take_length, behind_yes, hasFro, hb, freezeL, lentOf]
        rw [wr (by omega)]
        exact ⟨(i + 1, _, wrtL ws[i]! t L ws[i]!.gone, Z2), ⟨⟨by dsimp only; omega, hL, hZ2, hlen2⟩, rfl, rfl, rfl, rfl⟩, by dsimp only; omega⟩
    · obtain rfl : i = ws.length := by omega
      rw [List.drop_length] at hL
      have hL : L = wrtAll ws t vs := hL
      refine ⟨fun h60 => ?_, fun h60 => ?_⟩
      · (refine hQ _ ?_; simp only [vmA, Nat.reduceEqDiff, reduceIte, Nat.reduceAdd, Nat.reduceBEq, reduceCtorEq, Nat.reduceLT, Int.reduceLE, Int.reduceLT, Int.reduceEq, Nat.reduceMul, Nat.reduceLeDiff, Try.f97, retG, resL, St.closeVs, St.closeV, e10, e1, e2, e9, m576a, m576b, m576c, m576d, m576e])
        exact ⟨_, _, rfl, .inl ⟨rfl, rfl⟩⟩
      · (refine hQ _ ?_; simp only [vmA, Nat.reduceEqDiff, reduceIte, Nat.reduceAdd, Nat.reduceBEq, reduceCtorEq, Nat.reduceLT, Int.reduceLE, Int.reduceLT, Int.reduceEq, Nat.reduceMul, Nat.reduceLeDiff, Try.f97, retG, resL, St.closeVs, St.closeV, e10, e1, e2, e9, m576a, m576b, m576c, m576d, m576e, List.take_length])
        exact ⟨_, _, rfl, .inr ⟨rfl, by rw [← hL]; exact hZ, hv, hw, ht, hlt, by omega⟩⟩
