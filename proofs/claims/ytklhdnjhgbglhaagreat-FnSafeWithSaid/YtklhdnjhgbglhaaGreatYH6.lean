/- WALK, or plain laws for it: theorem f<k> says what function k returns. Conditions: none but those ahead of each theorem. -/
import Derived.Test.YtklhdnjhgbglhaaGreatYB6
import Derived.Test.YtklhdnjhgbglhaaGreatYP1
set_option linter.unusedVariables false
set_option linter.unusedSimpArgs false
open Nat renaming reduceEqDiff → sN1, reduceAdd → sN2, reduceBEq → sN3, reduceLT → sN4, reduceMul → sN5, reduceLeDiff → sN6, reduceSub → sN7
open Int renaming reduceLE → sI1, reduceLT → sI2, reduceEq → sI3
section
open Go Go.Vm Go.Proofs
set_option maxRecDepth 100000
set_option maxHeartbeats 8000000
set_option maxHeartbeats 8000000
theorem turnV_le (vs : List Ver) (c : Int) (hc : 0 ≤ c) : ∀ n, turnV vs n ≤ c ↔ ∀ k, k < n → lastV vs (k : Nat) 0 ≤ c
  | 0 => by simp [turnV, hc]
  | n + 1 => by
    have ih := turnV_le vs c hc n
    rw [turnV]
    constructor
    · intro h k hk
      rcases Nat.lt_or_eq_of_le (Nat.le_of_lt_succ hk) with h2 | rfl
      · exact ih.1 (by omega) k h2
      · omega
    · intro h
      have h1 := ih.2 fun k hk => h k (by omega)
      have h2 := h n (by omega)
      omega
theorem f53 (h : Hs) (ho : okH h) : Fx 53 [hA h] (.bool (decide (houseP h))) := by
  have h1 := ho.n
  have h2 := ho.m
  refine fn_of ⟨false, [], []⟩ Tryz.func53 (by kernel_rfl) rfl (by kernel_rfl) (by kernel_rfl) (Nat.le_of_ble_eq_true rfl) rfl fun Q hQ => ?_
  simp only [vmA, sN1, reduceIte, sN2, sN3, reduceCtorEq, sN4, sI1, sI2, sI3, sN5, sN6, hA, List.length_map]
  have hF : ¬ houseP h → AV.bool false = AV.bool (decide (houseP h)) := fun h => leafF h
  refine callD (f101 h.vs false (by omega) ho.row) ?_
  simp only [vmA, sN1, reduceIte, sN2, sN3, reduceCtorEq, sN4, sI1, sI2, sI3, sN5, sN6, hA, List.length_map]
  refine ⟨fun g1 => ?_, fun g1 => callD (f102 _ _ _) ?_⟩
  · (refine hQ _ ?_; simp only [vmA, sN1, reduceIte, sN2, sN3, reduceCtorEq, sN4, sI1, sI2, sI3, sN5, sN6, Tryz.f53, retG, resL, St.closeVs, St.closeV])
    exact hF fun z => g1 z.1
  simp only [vmA, sN1, reduceIte, sN2, sN3, reduceCtorEq, sN4, sI1, sI2, sI3, sN5, sN6, hA, List.length_map]
  refine ⟨fun g2 => ?_, fun g2 => ⟨fun g4 => ?_, fun g4 => ?_⟩⟩
  · (refine hQ _ ?_; simp only [vmA, sN1, reduceIte, sN2, sN3, reduceCtorEq, sN4, sI1, sI2, sI3, sN5, sN6, Tryz.f53, retG, resL, St.closeVs, St.closeV])
    exact hF fun z => g2 z.2.1
  · (refine hQ _ ?_; simp only [vmA, sN1, reduceIte, sN2, sN3, reduceCtorEq, sN4, sI1, sI2, sI3, sN5, sN6, Tryz.f53, retG, resL, St.closeVs, St.closeV])
    exact hF fun z => by have := z.2.2.2.1; omega
  have g5 : h.tx.length = 4 := by omega
  have htl := turnV_le h.vs h.ck g2.1 5
  have hlS : ∀ k, lastS h.vs k = lastV h.vs k 0 := fun k => by rw [lastS, if_pos g1]
  refine WT_loop (fun (k : Nat) σ => (k ≤ 5 ∧ (∀ j, j < k → lastV h.vs (j : Nat) 0 ≤ h.ck)) ∧ σ.sl 3 = .int .i64 k ∧ σ.sl 1 = .ptr 64 1 0 0 ∧ (σ.en 64).live = true ∧ (σ.en 64).gen = 1 ∧ (σ.en 64).frz = false ∧ (σ.en 64).sz = 3 ∧ (σ.en 64).elems = [hA h]) (fun k => 5 - k) (0) ⟨⟨Nat.zero_le _, by omega⟩, by simp [vmI, hA], by simp [vmI, hA], by simp [vmI, hA], by simp [vmI, hA], by simp [vmI, hA], by simp [vmI, hA], by simp [vmI, hA]⟩ ?_
  rintro k σ ⟨hk, e3, e1, m64a, m64b, m64c, m64d, m64e⟩
  obtain ⟨hk, hall⟩ := hk
  simp only [vmA, sN1, reduceIte, sN2, sN3, reduceCtorEq, sN4, sI1, sI2, sI3, sN5, sN6, e3, e1, m64a, m64b, m64c, m64d, m64e, hA, List.length_map]
  refine ⟨fun hlt => callD (f103 h.vs false k (by omega) ho.row) ?_, fun hge => ?_⟩
  · simp only [vmA, sN1, reduceIte, sN2, sN3, reduceCtorEq, sN4, sI1, sI2, sI3, sN5, sN6, e3, e1, m64a, m64b, m64c, m64d, m64e, hA, List.length_map, hlS]
    refine ⟨fun g6 => ?_, fun g6 => ?_⟩
    · (refine hQ _ ?_; simp only [vmA, sN1, reduceIte, sN2, sN3, reduceCtorEq, sN4, sI1, sI2, sI3, sN5, sN6, Tryz.f53, retG, resL, St.closeVs, St.closeV, e3, e1, m64a, m64b, m64c, m64d, m64e])
      exact hF fun z => absurd (htl.1 z.2.2.1 k (by omega)) (by omega)
    · rw [wr (by omega)]
      refine ⟨k + 1, ⟨⟨by omega, fun j hj => ?_⟩, rfl⟩, by omega⟩
      rcases Nat.lt_or_eq_of_le (Nat.le_of_lt_succ hj) with h2 | rfl
      · exact hall j h2
      · omega
  obtain rfl : k = 5 := by omega
  have g3 := htl.2 hall
  clear hall htl hlS hk hge
  refine WT_loop (fun (i : Nat) σ => (i ≤ 4 ∧ (∀ j, j < i → txP h.tx[j]! h.ck) ∧ apP h.tx i) ∧ σ.sl 4 = .int .i64 i ∧ σ.sl 1 = .ptr 64 1 0 0 ∧ (σ.en 64).live = true ∧ (σ.en 64).gen = 1 ∧ (σ.en 64).frz = false ∧ (σ.en 64).sz = 3 ∧ (σ.en 64).elems = [hA h]) (fun i => 4 - i) (0) ⟨⟨Nat.zero_le _, (by intro j hj; cases hj), (by intro j hj; cases hj)⟩, by simp [vmI, e3, e1, m64a, m64b, m64c, m64d, m64e, hA], by simp [vmI, e3, e1, m64a, m64b, m64c, m64d, m64e, hA], by simp [vmI, e3, e1, m64a, m64b, m64c, m64d, m64e, hA], by simp [vmI, e3, e1, m64a, m64b, m64c, m64d, m64e, hA], by simp [vmI, e3, e1, m64a, m64b, m64c, m64d, m64e, hA], by simp [vmI, e3, e1, m64a, m64b, m64c, m64d, m64e, hA], by simp [vmI, e3, e1, m64a, m64b, m64c, m64d, m64e, hA]⟩ ?_
  clear e3 e1 m64a m64b m64c m64d m64e
  rintro i σ ⟨hi, e4, e1, m64a, m64b, m64c, m64d, m64e⟩
  obtain ⟨hi, hall, hap⟩ := hi
  simp only [vmA, sN1, reduceIte, sN2, sN3, reduceCtorEq, sN4, sI1, sI2, sI3, sN5, sN6, e4, e1, m64a, m64b, m64c, m64d, m64e, hA, xA, List.length_map]
  refine ⟨fun hlt => ⟨by omega, by omega, callD (f104 h.tx[i]! h.ck g2 (ho.at (by omega))) ?_⟩, fun hge => ?_⟩
  rotate_left
  · (refine hQ _ ?_; simp only [vmA, sN1, reduceIte, sN2, sN3, reduceCtorEq, sN4, sI1, sI2, sI3, sN5, sN6, Tryz.f53, retG, resL, St.closeVs, St.closeV, e4, e1, m64a, m64b, m64c, m64d, m64e])
    obtain rfl : i = 4 := by omega
    exact leafT ⟨g1, g2, g3, g5, hall, hap⟩
  simp only [vmA, sN1, reduceIte, sN2, sN3, reduceCtorEq, sN4, sI1, sI2, sI3, sN5, sN6, e4, e1, m64a, m64b, m64c, m64d, m64e, hA, xA, List.length_map]
  refine ⟨fun g6 => ?_, fun g6 => ?_⟩
  · (refine hQ _ ?_; simp only [vmA, sN1, reduceIte, sN2, sN3, reduceCtorEq, sN4, sI1, sI2, sI3, sN5, sN6, Tryz.f53, retG, resL, St.closeVs, St.closeV, e4, e1, m64a, m64b, m64c, m64d, m64e])
    exact hF fun z => g6 (z.2.2.2.2.1 i (by omega))
  have hall' : ∀ j, j < i + 1 → txP h.tx[j]! h.ck := fun j hj => by
    rcases Nat.lt_or_eq_of_le (Nat.le_of_lt_succ hj) with h2 | rfl
    · exact hall j h2
    · exact g6
  refine WT_loop (fun (j : Nat) σ => (j ≤ i ∧ (∀ m, m < j → ¬ (h.tx[i]!.st = 2 ∧ h.tx[m]!.st = 2 ∧ h.tx[i]!.fn = h.tx[m]!.fn))) ∧ σ.sl 5 = .int .i64 j ∧ σ.sl 4 = .int .i64 i ∧ σ.sl 1 = .ptr 64 1 0 0 ∧ (σ.en 64).live = true ∧ (σ.en 64).gen = 1 ∧ (σ.en 64).frz = false ∧ (σ.en 64).sz = 3 ∧ (σ.en 64).elems = [hA h]) (fun j => i - j) (0) ⟨⟨Nat.zero_le _, (by intro j hj; cases hj)⟩, by simp [vmI, e4, e1, m64a, m64b, m64c, m64d, m64e, hA], by simp [vmI, e4, e1, m64a, m64b, m64c, m64d, m64e, hA], by simp [vmI, e4, e1, m64a, m64b, m64c, m64d, m64e, hA], by simp [vmI, e4, e1, m64a, m64b, m64c, m64d, m64e, hA], by simp [vmI, e4, e1, m64a, m64b, m64c, m64d, m64e, hA], by simp [vmI, e4, e1, m64a, m64b, m64c, m64d, m64e, hA], by simp [vmI, e4, e1, m64a, m64b, m64c, m64d, m64e, hA], by simp [vmI, e4, e1, m64a, m64b, m64c, m64d, m64e, hA]⟩ ?_
  clear e4 e1 m64a m64b m64c m64d m64e
  rintro j σ ⟨hj, e5, e4, e1, m64a, m64b, m64c, m64d, m64e⟩
  obtain ⟨hj, hno⟩ := hj
  have hno' : ¬ (h.tx[i]!.st = 2 ∧ h.tx[j]!.st = 2 ∧ h.tx[i]!.fn = h.tx[j]!.fn) → ∀ m, m < j + 1 → ¬ (h.tx[i]!.st = 2 ∧ h.tx[m]!.st = 2 ∧ h.tx[i]!.fn = h.tx[m]!.fn) := fun g m hm => by
    rcases Nat.lt_or_eq_of_le (Nat.le_of_lt_succ hm) with h2 | rfl
    · exact hno m h2
    · exact g
  simp only [vmA, sN1, reduceIte, sN2, sN3, reduceCtorEq, sN4, sI1, sI2, sI3, sN5, sN6, e5, e4, e1, m64a, m64b, m64c, m64d, m64e, hA, xA, List.length_map]
  refine ⟨fun hlj => ⟨by omega, by omega, fun q1 => ?_, fun q1 => ?_⟩, fun hge => ?_⟩
  · refine ⟨by omega, by omega, fun q2 => ?_, fun q2 => ?_⟩
    · refine ⟨by omega, by omega, by omega, by omega, fun q3 => ?_, fun q3 => ?_⟩
      · (refine hQ _ ?_; simp only [vmA, sN1, reduceIte, sN2, sN3, reduceCtorEq, sN4, sI1, sI2, sI3, sN5, sN6, Tryz.f53, retG, resL, St.closeVs, St.closeV, e5, e4, e1, m64a, m64b, m64c, m64d, m64e])
        exact hF fun z => z.2.2.2.2.2 i (by omega) j (by omega) ⟨q1, q2, q3⟩
      · rw [wr (by omega)]
        exact ⟨j + 1, ⟨⟨by omega, hno' (fun z => q3 z.2.2)⟩, rfl⟩, by omega⟩
    · rw [wr (by omega)]
      exact ⟨j + 1, ⟨⟨by omega, hno' (fun z => q2 z.2.1)⟩, rfl⟩, by omega⟩
  · rw [wr (by omega)]
    exact ⟨j + 1, ⟨⟨by omega, hno' (fun z => q1 z.1)⟩, rfl⟩, by omega⟩
  · obtain rfl : j = i := by omega
    rw [wr (by omega)]
    refine ⟨j + 1, ⟨⟨by omega, hall', fun a ha m hm => ?_⟩, rfl⟩, by omega⟩
    rcases Nat.lt_or_eq_of_le (Nat.le_of_lt_succ ha) with h2 | rfl
    · exact hap a h2 m hm
    · exact hno m hm
noncomputable def nowS (h : Hs) : List (List Val) := if houseP h then rowsS h.vs h.ck else []
end
section
open Go Go.Vm Go.Proofs
set_option maxRecDepth 100000
set_option maxHeartbeats 8000000
set_option maxHeartbeats 8000000
theorem wrtL_len (w : Wr) (t : Int) : ∀ (vs : List Ver) (d : Bool), (wrtL w t vs d).length ≤ vs.length + (if d then 0 else 1)
  | [], d => by cases d <;> simp [wrtL]
  | v :: vs, d => by
    have := wrtL_len w t vs (d || decide (w.key < v.key))
    rw [wrtL]
    cases d
    · by_cases h : w.key < v.key
      · simp [h] at this ⊢; omega
      · simp [h] at this ⊢; omega
    · simp at this ⊢; omega
theorem behind_yes {C : Cfg} {σ : St} {f : Nat} {xs : List AV} {dd : Option Tmp} {res : AV} (h : hasFro res = true) : behind C σ f xs dd res .und = takeRes dd (freezeL σ (lentL C σ f 0 xs)) res := by
  unfold behind
  rw [h, leftS_und]
  rfl
theorem f131 (vs : List Ver) (ws : List Wr) (c c2 : Bool) (t : Int) (hl : vs.length ≤ 1000) (hs : ∀ v ∈ vs, okR v.row) (hm : ∀ v ∈ vs, v.row.length ≤ 1048576) (hl2 : ws.length ≤ 1000) (hs2 : ∀ w ∈ ws, okW w) (hm2 : ∀ w ∈ ws, w.row.length ≤ 1048576) : FxR 131 [.fro none c (vs.map gA), .fro none c2 (ws.map wA), .int .i64 t] fun r l =>
    (∃ Z b, r = .tup [.own 4 Z, .bool b] ∧ ((b = false ∧ Z = []) ∨ (b = true ∧ Z.map froize = (wrtAll ws t vs).map gA ∧ verP vs ∧ wrsP ws ∧ (1 ≤ t ∧ t ≤ 40) ∧ (∀ k : Nat, k < 5 → lastS vs k < t) ∧ Z.length ≤ 60))) ∧ l = .und := by
  refine fn_ofR ⟨true, [], []⟩ Tryz.func131 (by kernel_rfl) rfl (by kernel_rfl) (by kernel_rfl) (Nat.le_of_ble_eq_true rfl) rfl fun Q hQ => ?_
  simp only [vmA, sN1, reduceIte, sN2, sN3, reduceCtorEq, sN4, sI1, sI2, sI3, sN5, sN6, List.length_map]
  refine callD (f101 vs c (by omega) hs) ?_
  simp only [vmA, sN1, reduceIte, sN2, sN3, reduceCtorEq, sN4, sI1, sI2, sI3, sN5, sN6, List.length_map]
  refine ⟨fun hv => ?_, fun hv => callD (f164 ws c2 (by omega) hs2) ?_⟩
  · (refine hQ _ ?_; simp only [vmA, sN1, reduceIte, sN2, sN3, reduceCtorEq, sN4, sI1, sI2, sI3, sN5, sN6, Tryz.f131, retG, resL, St.closeVs, St.closeV])
    exact ⟨_, _, rfl, .inl ⟨rfl, rfl⟩⟩
  simp only [vmA, sN1, reduceIte, sN2, sN3, reduceCtorEq, sN4, sI1, sI2, sI3, sN5, sN6, List.length_map]
  refine ⟨fun hw => ?_, fun hw => callD (f102 t 1 40) ?_⟩
  · (refine hQ _ ?_; simp only [vmA, sN1, reduceIte, sN2, sN3, reduceCtorEq, sN4, sI1, sI2, sI3, sN5, sN6, Tryz.f131, retG, resL, St.closeVs, St.closeV])
    exact ⟨_, _, rfl, .inl ⟨rfl, rfl⟩⟩
  simp only [vmA, sN1, reduceIte, sN2, sN3, reduceCtorEq, sN4, sI1, sI2, sI3, sN5, sN6, List.length_map]
  refine ⟨fun ht => ?_, fun ht => ?_⟩
  · (refine hQ _ ?_; simp only [vmA, sN1, reduceIte, sN2, sN3, reduceCtorEq, sN4, sI1, sI2, sI3, sN5, sN6, Tryz.f131, retG, resL, St.closeVs, St.closeV])
    exact ⟨_, _, rfl, .inl ⟨rfl, rfl⟩⟩
  refine WT_loop (fun (k : Nat) σ => (k ≤ 5 ∧ (∀ j : Nat, j < k → lastS vs j < t)) ∧ σ.sl 8 = .int .i64 k ∧ σ.sl 0 = .fro none c (vs.map gA) ∧ σ.sl 1 = .fro none c2 (ws.map wA) ∧ σ.sl 2 = .int .i64 t) (fun k => 5 - k) (0) ⟨⟨Nat.zero_le _, by omega⟩, by simp [vmI], by simp [vmI], by simp [vmI], by simp [vmI]⟩ ?_
  rintro k σ ⟨hk, e8, e0, e1, e2⟩
  obtain ⟨hk, hlt⟩ := hk
  simp only [vmA, sN1, reduceIte, sN2, sN3, reduceCtorEq, sN4, sI1, sI2, sI3, sN5, sN6, e8, e0, e1, e2, List.length_map]
  refine ⟨fun h5 => callD (f103 vs c k (by omega) hs) ?_, fun h5 => callD (f150 vs c (by omega) hm) ?_⟩
  · simp only [vmA, sN1, reduceIte, sN2, sN3, reduceCtorEq, sN4, sI1, sI2, sI3, sN5, sN6, e8, e0, e1, e2, List.length_map]
    refine ⟨fun hge => ?_, fun hlt2 => ?_⟩
    · (refine hQ _ ?_; simp only [vmA, sN1, reduceIte, sN2, sN3, reduceCtorEq, sN4, sI1, sI2, sI3, sN5, sN6, Tryz.f131, retG, resL, St.closeVs, St.closeV, e8, e0, e1, e2])
      exact ⟨_, _, rfl, .inl ⟨rfl, rfl⟩⟩
    · rw [wr (by omega)]
      refine ⟨k + 1, ⟨⟨by omega, fun j hj => ?_⟩, rfl⟩, by omega⟩
      rcases Nat.lt_or_eq_of_le (Nat.le_of_lt_succ hj) with h | rfl
      · exact hlt j h
      · omega
  · obtain rfl : k = 5 := by omega
    simp only [vmA, sN1, reduceIte, sN2, sN3, reduceCtorEq, sN4, sI1, sI2, sI3, sN5, sN6, e8, e0, e1, e2, List.length_map]
    refine WT_loopR (fun (zz : Nat × Nat × List Ver × List AV) σ => (zz.1 ≤ ws.length ∧ wrtAll (ws.drop zz.1) t zz.2.2.1 = wrtAll ws t vs ∧ zz.2.2.2.map froize = zz.2.2.1.map gA ∧ zz.2.2.1.length ≤ vs.length + zz.1) ∧ σ.sl 10 = .int .i64 zz.1 ∧ σ.sl 1 = .fro none c2 (ws.map wA) ∧ σ.sl 2 = .int .i64 t ∧ σ.sl 9 = .hd 576 zz.2.1 0 (zz.2.2.2.length) false ∧ (σ.en 576).live = true ∧ (σ.en 576).gen = zz.2.1 ∧ (σ.en 576).frz = false ∧ (σ.en 576).sz = 4 ∧ (σ.en 576).elems = zz.2.2.2) (fun zz => ws.length - zz.1) 9 ?_ ?_
    · simp only [vmA, sN1, reduceIte, sN2, sN3, reduceCtorEq, sN4, sI1, sI2, sI3, sN5, sN6, reown, e8, e0, e1, e2, List.length_map]
      refine ⟨(0, (σ.en 576).gen + 1, vs, vs.map gO), ⟨Nat.zero_le _, by simp, map_froize_gO vs, by simp⟩, rfl, ?_⟩
      simp
    clear e8 e0 e1 e2
    rintro ⟨i, γ, L, Z⟩ σ ⟨hi, e10, e1, e2, e9, m576a, m576b, m576c, m576d, m576e⟩
    try dsimp only at e10 e1 e2 e9 m576a m576b m576c m576d m576e hi
    obtain ⟨hi, hL, hZ, hn⟩ := hi
    have hZl : Z.length = L.length := by simpa using congrArg List.length hZ
    simp only [vmA, sN1, reduceIte, sN2, sN3, reduceCtorEq, sN4, sI1, sI2, sI3, sN5, sN6, e10, e1, e2, e9, m576a, m576b, m576c, m576d, m576e, List.length_map, wA, List.take_length, hZ]
    refine ⟨fun h => ⟨h, by omega, ?_⟩, fun h => ?_⟩
    · have hmem : ws[i]! ∈ ws := by rw [getElem!_pos ws i (by omega)]; exact List.getElem_mem _
      refine callR (f189 L false ws[i]! t (by omega) (hm2 _ hmem)) ?_
      rintro _ _ ⟨⟨Z2, rfl, hZ2⟩, rfl⟩
      have hlen := wrtL_len ws[i]! t L ws[i]!.gone
      have hst : wrtAll (ws.drop i) t L = wrtAll (ws.drop (i + 1)) t (wrtL ws[i]! t L ws[i]!.gone) := by
        rw [List.drop_eq_getElem_cons (by omega : i < ws.length), getElem!_pos ws i (by omega)]; rfl
      rw [hst] at hL
      have hlen2 : (wrtL ws[i]! t L ws[i]!.gone).length ≤ vs.length + (i + 1) := by split at hlen <;> omega
      cases hb : hasFro.hasFroL Z2
      · simp only [vmA, sN1, reduceIte, sN2, sN3, reduceCtorEq, sN4, sI1, sI2, sI3, sN5, sN6, e10, e1, e2, e9, m576a, m576b, m576c, m576d, m576e, List.length_map, reown, List.take_length, behind_nf, hasFro, hb]
        rw [wr (by omega)]
        exact ⟨(i + 1, _, wrtL ws[i]! t L ws[i]!.gone, Z2), ⟨⟨by dsimp only; omega, hL, hZ2, hlen2⟩, rfl, rfl, rfl, rfl⟩, by dsimp only; omega⟩
      · simp only [vmA, sN1, reduceIte, sN2, sN3, reduceCtorEq, sN4, sI1, sI2, sI3, sN5, sN6, e10, e1, e2, e9, m576a, m576b, m576c, m576d, m576e, List.length_map, reown, List.take_length, behind_yes, hasFro, hb, freezeL, lentOf]
        rw [wr (by omega)]
        exact ⟨(i + 1, _, wrtL ws[i]! t L ws[i]!.gone, Z2), ⟨⟨by dsimp only; omega, hL, hZ2, hlen2⟩, rfl, rfl, rfl, rfl⟩, by dsimp only; omega⟩
    · obtain rfl : i = ws.length := by omega
      rw [List.drop_length] at hL
      have hL : L = wrtAll ws t vs := hL
      refine ⟨fun h60 => ?_, fun h60 => ?_⟩
      · (refine hQ _ ?_; simp only [vmA, sN1, reduceIte, sN2, sN3, reduceCtorEq, sN4, sI1, sI2, sI3, sN5, sN6, Tryz.f131, retG, resL, St.closeVs, St.closeV, e10, e1, e2, e9, m576a, m576b, m576c, m576d, m576e])
        exact ⟨_, _, rfl, .inl ⟨rfl, rfl⟩⟩
      · (refine hQ _ ?_; simp only [vmA, sN1, reduceIte, sN2, sN3, reduceCtorEq, sN4, sI1, sI2, sI3, sN5, sN6, Tryz.f131, retG, resL, St.closeVs, St.closeV, e10, e1, e2, e9, m576a, m576b, m576c, m576d, m576e, List.take_length])
        exact ⟨_, _, rfl, .inr ⟨rfl, by rw [← hL]; exact hZ, hv, hw, ht, hlt, by omega⟩⟩
end
