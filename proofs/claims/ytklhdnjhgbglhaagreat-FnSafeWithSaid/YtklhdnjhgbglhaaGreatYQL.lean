/- WALK, or plain laws for it: theorem f<k> says what function k returns. Conditions: none but those ahead of each theorem. -/
import Derived.Test.YtklhdnjhgbglhaaGreatYEB
import Derived.Test.YtklhdnjhgbglhaaGreatYH12
set_option linter.unusedVariables false
set_option linter.unusedSimpArgs false
open Nat renaming reduceEqDiff → sN1, reduceAdd → sN2, reduceBEq → sN3, reduceLT → sN4, reduceMul → sN5, reduceLeDiff → sN6, reduceSub → sN7
open Int renaming reduceLE → sI1, reduceLT → sI2, reduceEq → sI3
open Go Go.Vm Go.Proofs
set_option maxRecDepth 100000
set_option maxHeartbeats 16000000
def fitP (vs : List Ver) (ws : List Wr) (t : Int) : Prop := verP vs ∧ wrsP ws ∧ (1 ≤ t ∧ t ≤ 40) ∧ (∀ k : Nat, k < 5 → lastS vs k < t) ∧ (wrtAll ws t vs).length ≤ 60
theorem f131x (vs : List Ver) (ws : List Wr) (c c2 : Bool) (t : Int) (hl : vs.length ≤ 1000) (hs : ∀ v ∈ vs, okR v.row) (hm : ∀ v ∈ vs, v.row.length ≤ 1048576) (hl2 : ws.length ≤ 1000) (hs2 : ∀ w ∈ ws, okW w) (hm2 : ∀ w ∈ ws, w.row.length ≤ 1048576) : FxR 131 [.fro none c (vs.map gA), .fro none c2 (ws.map wA), .int .i64 t] fun r l =>
    (∃ Z b, r = .tup [.own 4 Z, .bool b] ∧ ((b = false ∧ Z = [] ∧ ¬ fitP vs ws t) ∨ (b = true ∧ Z.map froize = (wrtAll ws t vs).map gA ∧ fitP vs ws t))) ∧ l = .und := by
  refine fn_ofR ⟨true, [], []⟩ Tryz.func131 (by kernel_rfl) rfl (by kernel_rfl) (by kernel_rfl) (Nat.le_of_ble_eq_true rfl) rfl fun Q hQ => ?_
  simp only [vmA, sN1, reduceIte, sN2, sN3, reduceCtorEq, sN4, sI1, sI2, sI3, sN5, sN6, List.length_map]
  refine callD (f101 vs c (by omega) hs) ?_
  simp only [vmA, sN1, reduceIte, sN2, sN3, reduceCtorEq, sN4, sI1, sI2, sI3, sN5, sN6, List.length_map]
  refine ⟨fun hv => ?_, fun hv => callD (f164 ws c2 (by omega) hs2) ?_⟩
  · (refine hQ _ ?_; simp only [vmA, sN1, reduceIte, sN2, sN3, reduceCtorEq, sN4, sI1, sI2, sI3, sN5, sN6, Tryz.f131, retG, resL, St.closeVs, St.closeV])
    exact ⟨_, _, rfl, .inl ⟨rfl, rfl, fun z => hv z.1⟩⟩
  simp only [vmA, sN1, reduceIte, sN2, sN3, reduceCtorEq, sN4, sI1, sI2, sI3, sN5, sN6, List.length_map]
  refine ⟨fun hw => ?_, fun hw => callD (f102 t 1 40) ?_⟩
  · (refine hQ _ ?_; simp only [vmA, sN1, reduceIte, sN2, sN3, reduceCtorEq, sN4, sI1, sI2, sI3, sN5, sN6, Tryz.f131, retG, resL, St.closeVs, St.closeV])
    exact ⟨_, _, rfl, .inl ⟨rfl, rfl, fun z => hw z.2.1⟩⟩
  simp only [vmA, sN1, reduceIte, sN2, sN3, reduceCtorEq, sN4, sI1, sI2, sI3, sN5, sN6, List.length_map]
  refine ⟨fun ht => ?_, fun ht => ?_⟩
  · (refine hQ _ ?_; simp only [vmA, sN1, reduceIte, sN2, sN3, reduceCtorEq, sN4, sI1, sI2, sI3, sN5, sN6, Tryz.f131, retG, resL, St.closeVs, St.closeV])
    exact ⟨_, _, rfl, .inl ⟨rfl, rfl, fun z => ht z.2.2.1⟩⟩
  refine WT_loop (fun (k : Nat) σ => (k ≤ 5 ∧ (∀ j : Nat, j < k → lastS vs j < t)) ∧ σ.sl 8 = .int .i64 k ∧ σ.sl 0 = .fro none c (vs.map gA) ∧ σ.sl 1 = .fro none c2 (ws.map wA) ∧ σ.sl 2 = .int .i64 t) (fun k => 5 - k) (0) ⟨⟨Nat.zero_le _, by omega⟩, by simp [vmI], by simp [vmI], by simp [vmI], by simp [vmI]⟩ ?_
  rintro k σ ⟨hk, e8, e0, e1, e2⟩
  obtain ⟨hk, hlt⟩ := hk
  simp only [vmA, sN1, reduceIte, sN2, sN3, reduceCtorEq, sN4, sI1, sI2, sI3, sN5, sN6, e8, e0, e1, e2, List.length_map]
  refine ⟨fun h5 => callD (f103 vs c k (by omega) hs) ?_, fun h5 => callD (f150 vs c (by omega) hm) ?_⟩
  · simp only [vmA, sN1, reduceIte, sN2, sN3, reduceCtorEq, sN4, sI1, sI2, sI3, sN5, sN6, e8, e0, e1, e2, List.length_map]
    refine ⟨fun hge => ?_, fun hlt2 => ?_⟩
    · (refine hQ _ ?_; simp only [vmA, sN1, reduceIte, sN2, sN3, reduceCtorEq, sN4, sI1, sI2, sI3, sN5, sN6, Tryz.f131, retG, resL, St.closeVs, St.closeV, e8, e0, e1, e2])
      exact ⟨_, _, rfl, .inl ⟨rfl, rfl, fun z => by have := z.2.2.2.1 k (by omega); omega⟩⟩
    · rw [wr (by omega)]
      refine ⟨k + 1, ⟨⟨by omega, fun j hj => ?_⟩, rfl⟩, by omega⟩
      rcases Nat.lt_or_eq_of_le (Nat.le_of_lt_succ hj) with h | rfl
      · exact hlt j h
      · omega
  · obtain rfl : k = 5 := by omega
    simp only [vmA, sN1, reduceIte, sN2, sN3, reduceCtorEq, sN4, sI1, sI2, sI3, sN5, sN6, e8, e0, e1, e2, List.length_map]
    refine WT_loopR (fun (zz : Nat × Nat × List Ver × List AV) σ => (zz.1 ≤ ws.length ∧ wrtAll (ws.drop zz.1) t zz.2.2.1 = wrtAll ws t vs ∧ zz.2.2.2.map froize = zz.2.2.1.map gA ∧ zz.2.2.1.length ≤ vs.length + zz.1) ∧ σ.sl 10 = .int .i64 zz.1 ∧ σ.sl 1 = .fro none c2 (ws.map wA) ∧ σ.sl 2 = .int .i64 t ∧ σ.sl 9 = .hd 576 zz.2.1 0 (zz.2.2.2.length) false ∧ (σ.en 576).live = true ∧ (σ.en 576).gen = zz.2.1 ∧ (σ.en 576).frz = false ∧ (σ.en 576).sz = 4 ∧ (σ.en 576).elems = zz.2.2.2) (fun zz => ws.length - zz.1) 9 ?_ ?_
    · simp only [vmA, sN1, reduceIte, sN2, sN3, reduceCtorEq, sN4, sI1, sI2, sI3, sN5, sN6, reown, e8, e0, e1, e2, List.length_map]
      refine ⟨(0, (σ.en 576).gen + 1, vs, vs.map gO), ⟨Nat.zero_le _, by simp, map_froize_gO vs, by simp⟩, rfl, ?_⟩
      simp
    clear e8 e0 e1 e2
    rintro ⟨i, γ, L, Z⟩ σ ⟨hi, e10, e1, e2, e9, m576a, m576b, m576c, m576d, m576e⟩
    try dsimp only at e10 e1 e2 e9 m576a m576b m576c m576d m576e hi
    obtain ⟨hi, hL, hZ, hn⟩ := hi
    have hZl : Z.length = L.length := by simpa using congrArg List.length hZ
    simp only [vmA, sN1, reduceIte, sN2, sN3, reduceCtorEq, sN4, sI1, sI2, sI3, sN5, sN6, e10, e1, e2, e9, m576a, m576b, m576c, m576d, m576e, List.length_map, wA, List.take_length, hZ]
    refine ⟨fun h => ⟨h, by omega, ?_⟩, fun h => ?_⟩
    · have hmem : ws[i]! ∈ ws := by rw [getElem!_pos ws i (by omega)]; exact List.getElem_mem _
      refine callR (f189 L false ws[i]! t (by omega) (hm2 _ hmem)) ?_
      rintro _ _ ⟨⟨Z2, rfl, hZ2⟩, rfl⟩
      have hlen := wrtL_len ws[i]! t L ws[i]!.gone
      have hst : wrtAll (ws.drop i) t L = wrtAll (ws.drop (i + 1)) t (wrtL ws[i]! t L ws[i]!.gone) := by
        rw [List.drop_eq_getElem_cons (by omega : i < ws.length), getElem!_pos ws i (by omega)]; rfl
      rw [hst] at hL
      have hlen2 : (wrtL ws[i]! t L ws[i]!.gone).length ≤ vs.length + (i + 1) := by split at hlen <;> omega
      cases hb : hasFro.hasFroL Z2
      · simp only [vmA, sN1, reduceIte, sN2, sN3, reduceCtorEq, sN4, sI1, sI2, sI3, sN5, sN6, e10, e1, e2, e9, m576a, m576b, m576c, m576d, m576e, List.length_map, reown, List.take_length, behind_nf, hasFro, hb]
        rw [wr (by omega)]
        exact ⟨(i + 1, _, wrtL ws[i]! t L ws[i]!.gone, Z2), ⟨⟨by dsimp only; omega, hL, hZ2, hlen2⟩, rfl, rfl, rfl, rfl⟩, by dsimp only; omega⟩
      · simp only [vmA, sN1, reduceIte, sN2, sN3, reduceCtorEq, sN4, sI1, sI2, sI3, sN5, sN6, e10, e1, e2, e9, m576a, m576b, m576c, m576d, m576e, List.length_map, reown, List.take_length, behind_yes, hasFro, hb, freezeL, lentOf]
        rw [wr (by omega)]
        exact ⟨(i + 1, _, wrtL ws[i]! t L ws[i]!.gone, Z2), ⟨⟨by dsimp only; omega, hL, hZ2, hlen2⟩, rfl, rfl, rfl, rfl⟩, by dsimp only; omega⟩
    · obtain rfl : i = ws.length := by omega
      rw [List.drop_length] at hL
      have hL : L = wrtAll ws t vs := hL
      refine ⟨fun h60 => ?_, fun h60 => ?_⟩
      · (refine hQ _ ?_; simp only [vmA, sN1, reduceIte, sN2, sN3, reduceCtorEq, sN4, sI1, sI2, sI3, sN5, sN6, Tryz.f131, retG, resL, St.closeVs, St.closeV, e10, e1, e2, e9, m576a, m576b, m576c, m576d, m576e])
        exact ⟨_, _, rfl, .inl ⟨rfl, rfl, fun z => by have h9 := z.2.2.2.2; rw [← hL] at h9; omega⟩⟩
      · (refine hQ _ ?_; simp only [vmA, sN1, reduceIte, sN2, sN3, reduceCtorEq, sN4, sI1, sI2, sI3, sN5, sN6, Tryz.f131, retG, resL, St.closeVs, St.closeV, e10, e1, e2, e9, m576a, m576b, m576c, m576d, m576e, List.take_length])
        exact ⟨_, _, rfl, .inr ⟨rfl, by rw [← hL]; exact hZ, hv, hw, ht, hlt, by rw [← hL]; omega⟩⟩
theorem own_hasW (k : Int) : ∀ (ws : List Wr) (i : Nat), 0 ≤ ownL k ws i ↔ hasW ws k
  | [], i => by
    unfold hasW ownL
    simp
  | w :: ws, i => by
    rw [ownL]
    by_cases h : w.key = k
    · rw [if_pos h]
      exact ⟨fun _ => ⟨w, by simp, h⟩, fun _ => by omega⟩
    · rw [if_neg h, own_hasW k ws (i + 1)]
      unfold hasW
      constructor
      · rintro ⟨x, hx, e⟩; exact ⟨x, by simp [hx], e⟩
      · rintro ⟨x, hx, e⟩
        rcases List.mem_cons.1 hx with rfl | hx
        · exact absurd e h
        · exact ⟨x, hx, e⟩
def ltN (h : Hs) (t : Tx) (k : Int) (n : Nat) : Prop := t.bg < lastV h.vs k 0 ∨ ∃ m, m < n ∧ (h.tx[m]!.st = 2 ∧ t.bg < h.tx[m]!.fn ∧ hasW h.tx[m]!.ws k)
theorem ltN_zero (h : Hs) (t : Tx) (k : Int) : ltN h t k 0 ↔ t.bg < lastV h.vs k 0 := ⟨fun e => e.elim id fun ⟨m, hm, _⟩ => absurd hm (Nat.not_lt_zero _), .inl⟩
theorem ltN_next {h : Hs} {t : Tx} {k : Int} {j : Nat} : ltN h t k (j + 1) ↔ ltN h t k j ∨ (h.tx[j]!.st = 2 ∧ t.bg < h.tx[j]!.fn ∧ hasW h.tx[j]!.ws k) := by
  unfold ltN
  constructor
  · rintro (e | ⟨m, hm, e⟩)
    · exact .inl (.inl e)
    · by_cases hmj : m = j
      · subst hmj; exact .inr e
      · exact .inl (.inr ⟨m, by omega, e⟩)
  · rintro ((e | ⟨m, hm, e⟩) | e)
    · exact .inl e
    · exact .inr ⟨m, by omega, e⟩
    · exact .inr ⟨j, by omega, e⟩
theorem ltN_all {h : Hs} {t : Tx} {k : Int} : ltN h t k h.tx.length ↔ lateW h t k := by
  unfold ltN lateW
  constructor
  · rintro (e | ⟨m, hm, e⟩)
    · exact .inl e
    · exact .inr ⟨h.tx[m]!, mem_get hm, e⟩
  · rintro (e | ⟨u, hu, e⟩)
    · exact .inl e
    · obtain ⟨i, hi, rfl⟩ := List.mem_iff_getElem.1 hu
      exact .inr ⟨i, hi, by rw [getElem!_pos h.tx i hi]; exact e⟩
theorem f130x (h : Hs) (t : Tx) (hp : houseP h) (ho : okH h) (ht : okX t) : Fx 130 [hA h, xA t] (.bool (decide (lateP h t))) := by
  have h1 := ho.n
  have h2 := ho.m
  have h3 := ht.2.1
  have hS : ∀ k, lastS h.vs k = lastV h.vs k 0 := fun k => if_pos hp.1
  refine fn_of ⟨false, [], []⟩ Tryz.func130 (by kernel_rfl) rfl (by kernel_rfl) (by kernel_rfl) (Nat.le_of_ble_eq_true rfl) rfl fun Q hQ => ?_
  simp only [vmA, sN1, reduceIte, sN2, sN3, reduceCtorEq, sN4, sI1, sI2, sI3, sN5, sN6, hA, xA]
  refine WT_loop (fun (i : Nat) σ => (i ≤ t.ws.length ∧ ∀ m, m < i → ¬ lateW h t t.ws[m]!.key) ∧ σ.sl 5 = .int .i64 i ∧ σ.sl 2 = .ptr 128 1 0 0 ∧ (σ.en 128).live = true ∧ (σ.en 128).gen = 1 ∧ (σ.en 128).frz = false ∧ (σ.en 128).sz = 3 ∧ (σ.en 128).elems = [hA h] ∧ σ.sl 3 = .ptr 192 1 0 0 ∧ (σ.en 192).live = true ∧ (σ.en 192).gen = 1 ∧ (σ.en 192).frz = false ∧ (σ.en 192).sz = 5 ∧ (σ.en 192).elems = [xA t]) (fun i => t.ws.length - i) (0) ⟨⟨Nat.zero_le _, fun m hm => absurd hm (Nat.not_lt_zero _)⟩, by simp [vmI, hA, xA], by simp [vmI, hA, xA], by simp [vmI, hA, xA], by simp [vmI, hA, xA], by simp [vmI, hA, xA], by simp [vmI, hA, xA], by simp [vmI, hA, xA], by simp [vmI, hA, xA], by simp [vmI, hA, xA], by simp [vmI, hA, xA], by simp [vmI, hA, xA], by simp [vmI, hA, xA], by simp [vmI, hA, xA]⟩ ?_
  rintro i σ ⟨hi, e5, e2, m128a, m128b, m128c, m128d, m128e, e3, m192a, m192b, m192c, m192d, m192e⟩
  obtain ⟨hi, hno⟩ := hi
  simp only [vmA, sN1, reduceIte, sN2, sN3, reduceCtorEq, sN4, sI1, sI2, sI3, sN5, sN6, e5, e2, m128a, m128b, m128c, m128d, m128e, e3, m192a, m192b, m192c, m192d, m192e, hA, xA, wA, List.length_map]
  refine ⟨fun g1 => ⟨g1, by omega, ?_⟩, fun g1 => ?_⟩
  · refine callD (f103 _ false _ (by omega) ho.row) ?_
    rw [hS]
    simp only [vmA, sN1, reduceIte, sN2, sN3, reduceCtorEq, sN4, sI1, sI2, sI3, sN5, sN6, e5, e2, m128a, m128b, m128c, m128d, m128e, e3, m192a, m192b, m192c, m192d, m192e, hA, xA, wA, List.length_map]
    have l0 : decide (t.bg < lastV h.vs t.ws[i]!.key 0) = true ↔ ltN h t t.ws[i]!.key 0 := by rw [decide_eq_true_eq]; exact (ltN_zero _ _ _).symm
    refine WT_loop (fun (zz : Nat × Bool) σ => (zz.1 ≤ h.tx.length ∧ (zz.2 = true ↔ ltN h t t.ws[i]!.key zz.1)) ∧ σ.sl 8 = .int .i64 zz.1 ∧ σ.sl 7 = .bool zz.2 ∧ σ.sl 5 = .int .i64 i ∧ σ.sl 6 = .int .i64 t.ws[i]!.key ∧ σ.sl 2 = .ptr 128 1 0 0 ∧ (σ.en 128).live = true ∧ (σ.en 128).gen = 1 ∧ (σ.en 128).frz = false ∧ (σ.en 128).sz = 3 ∧ (σ.en 128).elems = [hA h] ∧ σ.sl 3 = .ptr 192 1 0 0 ∧ (σ.en 192).live = true ∧ (σ.en 192).gen = 1 ∧ (σ.en 192).frz = false ∧ (σ.en 192).sz = 5 ∧ (σ.en 192).elems = [xA t]) (fun zz => h.tx.length - zz.1) ((0, decide (t.bg < lastV h.vs t.ws[i]!.key 0))) ⟨⟨Nat.zero_le _, l0⟩, by simp [vmI, e5, e2, m128a, m128b, m128c, m128d, m128e, e3, m192a, m192b, m192c, m192d, m192e, hA, xA], by simp [vmI, e5, e2, m128a, m128b, m128c, m128d, m128e, e3, m192a, m192b, m192c, m192d, m192e, hA, xA], by simp [vmI, e5, e2, m128a, m128b, m128c, m128d, m128e, e3, m192a, m192b, m192c, m192d, m192e, hA, xA], by simp [vmI, e5, e2, m128a, m128b, m128c, m128d, m128e, e3, m192a, m192b, m192c, m192d, m192e, hA, xA], by simp [vmI, e5, e2, m128a, m128b, m128c, m128d, m128e, e3, m192a, m192b, m192c, m192d, m192e, hA, xA], by simp [vmI, e5, e2, m128a, m128b, m128c, m128d, m128e, e3, m192a, m192b, m192c, m192d, m192e, hA, xA], by simp [vmI, e5, e2, m128a, m128b, m128c, m128d, m128e, e3, m192a, m192b, m192c, m192d, m192e, hA, xA], by simp [vmI, e5, e2, m128a, m128b, m128c, m128d, m128e, e3, m192a, m192b, m192c, m192d, m192e, hA, xA], by simp [vmI, e5, e2, m128a, m128b, m128c, m128d, m128e, e3, m192a, m192b, m192c, m192d, m192e, hA, xA], by simp [vmI, e5, e2, m128a, m128b, m128c, m128d, m128e, e3, m192a, m192b, m192c, m192d, m192e, hA, xA], by simp [vmI, e5, e2, m128a, m128b, m128c, m128d, m128e, e3, m192a, m192b, m192c, m192d, m192e, hA, xA], by simp [vmI, e5, e2, m128a, m128b, m128c, m128d, m128e, e3, m192a, m192b, m192c, m192d, m192e, hA, xA], by simp [vmI, e5, e2, m128a, m128b, m128c, m128d, m128e, e3, m192a, m192b, m192c, m192d, m192e, hA, xA], by simp [vmI, e5, e2, m128a, m128b, m128c, m128d, m128e, e3, m192a, m192b, m192c, m192d, m192e, hA, xA], by simp [vmI, e5, e2, m128a, m128b, m128c, m128d, m128e, e3, m192a, m192b, m192c, m192d, m192e, hA, xA], by simp [vmI, e5, e2, m128a, m128b, m128c, m128d, m128e, e3, m192a, m192b, m192c, m192d, m192e, hA, xA]⟩ ?_
    clear e5 e2 m128a m128b m128c m128d m128e e3 m192a m192b m192c m192d m192e
    rintro ⟨j, b⟩ σ ⟨hj, e8, e7, e5, e6, e2, m128a, m128b, m128c, m128d, m128e, e3, m192a, m192b, m192c, m192d, m192e⟩
    try dsimp only at e8 e7 e5 e6 e2 m128a m128b m128c m128d m128e e3 m192a m192b m192c m192d m192e hj
    obtain ⟨hj, hb⟩ := hj
    have nx : ∀ c : Bool, (c = true ↔ (h.tx[j]!.st = 2 ∧ t.bg < h.tx[j]!.fn ∧ hasW h.tx[j]!.ws t.ws[i]!.key)) → b = false → (c = true ↔ ltN h t t.ws[i]!.key (j + 1)) := fun c hc hf => by
      rw [ltN_next, ← hb, hf, hc]
      exact ⟨.inr, fun e => e.elim (fun e => by cases e) id⟩
    cases b
    · simp only [vmA, sN1, reduceIte, sN2, sN3, reduceCtorEq, sN4, sI1, sI2, sI3, sN5, sN6, e8, e7, e5, e6, e2, m128a, m128b, m128c, m128d, m128e, e3, m192a, m192b, m192c, m192d, m192e, hA, xA, wA, List.length_map]
      refine ⟨fun g2 => ⟨g2, by omega, fun g3 => ⟨g2, by omega, fun g4 => ⟨g2, by omega, ?_⟩, fun g4 => ?_⟩, fun g3 => ?_⟩, fun g2 => ?_⟩
      · have hx := ho.at (i := j) (by omega)
        refine callD (f127x h.tx[j]! _ hx.2.1) ?_
        simp only [vmA, sN1, reduceIte, sN2, sN3, reduceCtorEq, sN4, sI1, sI2, sI3, sN5, sN6, e8, e7, e5, e6, e2, m128a, m128b, m128c, m128d, m128e, e3, m192a, m192b, m192c, m192d, m192e, hA, xA, wA, List.length_map]
        rw [wr (by omega)]
        refine ⟨(j + 1, decide (0 ≤ ownL t.ws[i]!.key h.tx[j]!.ws 0)), ⟨⟨by dsimp only; omega, nx _ ?_ rfl⟩, rfl, rfl⟩, by dsimp only; omega⟩
        show decide (0 ≤ ownL t.ws[i]!.key h.tx[j]!.ws 0) = true ↔ _
        rw [decide_eq_true_eq, own_hasW]
        exact ⟨fun e => ⟨g3, g4, e⟩, fun e => e.2.2⟩
      · rw [wr (by omega)]
        exact ⟨(j + 1, false), ⟨⟨by dsimp only; omega, nx false ⟨fun e => (by cases e), fun e => absurd e.2.1 g4⟩ rfl⟩, rfl, rfl⟩, by dsimp only; omega⟩
      · rw [wr (by omega)]
        exact ⟨(j + 1, false), ⟨⟨by dsimp only; omega, nx false ⟨fun e => (by cases e), fun e => absurd e.1 g3⟩ rfl⟩, rfl, rfl⟩, by dsimp only; omega⟩
      · rw [wr (by omega)]
        refine ⟨i + 1, ⟨⟨by omega, fun m hm => ?_⟩, rfl⟩, by omega⟩
        by_cases hmi : m = i
        · subst hmi
          obtain rfl : j = h.tx.length := by omega
          rw [← ltN_all, ← hb]
          decide
        · exact hno m (by omega)
    · simp only [vmA, sN1, reduceIte, sN2, sN3, reduceCtorEq, sN4, sI1, sI2, sI3, sN5, sN6, e8, e7, e5, e6, e2, m128a, m128b, m128c, m128d, m128e, e3, m192a, m192b, m192c, m192d, m192e, hA, xA, wA, List.length_map]
      refine ⟨fun g2 => ?_, fun g2 => ?_⟩
      · rw [wr (by omega)]
        exact ⟨(j + 1, true), ⟨⟨by dsimp only; omega, ⟨fun _ => ltN_next.2 (.inl (hb.1 rfl)), fun _ => rfl⟩⟩, rfl, rfl⟩, by dsimp only; omega⟩
      · (refine hQ _ ?_; simp only [vmA, sN1, reduceIte, sN2, sN3, reduceCtorEq, sN4, sI1, sI2, sI3, sN5, sN6, Tryz.f130, retG, resL, St.closeVs, St.closeV, e8, e7, e5, e6, e2, m128a, m128b, m128c, m128d, m128e, e3, m192a, m192b, m192c, m192d, m192e])
        obtain rfl : j = h.tx.length := by omega
        exact leafG ⟨fun _ => ⟨t.ws[i]!, mem_get (by omega), ltN_all.1 (hb.1 rfl)⟩, fun _ => rfl⟩
  · (refine hQ _ ?_; simp only [vmA, sN1, reduceIte, sN2, sN3, reduceCtorEq, sN4, sI1, sI2, sI3, sN5, sN6, Tryz.f130, retG, resL, St.closeVs, St.closeV, e5, e2, m128a, m128b, m128c, m128d, m128e, e3, m192a, m192b, m192c, m192d, m192e])
    refine leafG ⟨fun e => (by cases e), fun ⟨w, hw, e⟩ => ?_⟩
    obtain ⟨m, hm, rfl⟩ := List.mem_iff_getElem.1 hw
    have := hno m (by omega)
    rw [getElem!_pos t.ws m hm] at this
    exact absurd e this
