/- WALK, or plain laws for it: theorem f<k> says what function k returns. Conditions: none but those ahead of each theorem. -/
import Derived.Test.YtklhdnjhgbglhaaGreatYEC
import Derived.Test.YtklhdnjhgbglhaaGreatYP6
set_option linter.unusedVariables false
set_option linter.unusedSimpArgs false
open Nat renaming reduceEqDiff → sN1, reduceAdd → sN2, reduceBEq → sN3, reduceLT → sN4, reduceMul → sN5, reduceLeDiff → sN6, reduceSub → sN7
open Int renaming reduceLE → sI1, reduceLT → sI2, reduceEq → sI3
open Go Go.Vm Go.Proofs
set_option maxRecDepth 100000
set_option maxHeartbeats 8000000
structure Ed where
  fr : Int
  to : Int
  kind : Int
instance : Inhabited Ed := ⟨⟨0, 0, 0⟩⟩
def dgA (e : Ed) : AV := .agg [.int .i64 e.fr, .int .i64 e.to, .int .i64 e.kind]
def edR (ts : List Tx) (a b : Nat) (k : Int) : Prop := a ≠ b ∧ ts[a]!.st = 2 ∧ ts[b]!.st = 2 ∧ relP ts[a]! ts[b]! k
instance (ts : List Tx) (a b : Nat) (k : Int) : Decidable (edR ts a b k) := by unfold edR; exact inferInstance
def edE (ts : List Tx) (e : Ed) : Prop := ∃ a b : Nat, a < 4 ∧ b < 4 ∧ (1 ≤ e.kind ∧ e.kind ≤ 3) ∧ e.fr = a ∧ e.to = b ∧ edR ts a b e.kind
def edI (ts : List Tx) (L : List Ed) (i j : Nat) (k : Int) : Prop := ∀ e, e ∈ L ↔ edE ts e ∧ (e.fr < i ∨ e.fr = i ∧ (e.to < j ∨ e.to = j ∧ e.kind < k))
theorem edI_yes {ts : List Tx} {L : List Ed} {i j : Nat} {k : Int} (h : edI ts L i j k) (hi : i < 4) (hj : j < 4) (hk : 1 ≤ k ∧ k ≤ 3) (hr : edR ts i j k) : edI ts (L ++ [⟨i, j, k⟩]) i j (k + 1) := by
  intro e
  rw [List.mem_append, List.mem_singleton, h e]
  constructor
  · rintro (⟨h1, h2⟩ | rfl)
    · exact ⟨h1, by omega⟩
    · exact ⟨⟨i, j, hi, hj, hk, rfl, rfl, hr⟩, by dsimp only; omega⟩
  · rintro ⟨h1, h2⟩
    by_cases h3 : e.fr = i ∧ e.to = j ∧ e.kind = k
    · right
      obtain ⟨a, b, c⟩ := e
      simp only at h3
      obtain ⟨rfl, rfl, rfl⟩ := h3
      rfl
    · left; exact ⟨h1, by omega⟩
theorem edI_no {ts : List Tx} {L : List Ed} {i j : Nat} {k : Int} (h : edI ts L i j k) (hr : ¬ edR ts i j k) : edI ts L i j (k + 1) := by
  intro e
  rw [h e]
  constructor
  · rintro ⟨h1, h2⟩; exact ⟨h1, by omega⟩
  · rintro ⟨h1, h2⟩
    refine ⟨h1, ?_⟩
    by_cases h3 : e.fr = i ∧ e.to = j ∧ e.kind = k
    · obtain ⟨a, b, _, _, _, e1, e2, e3⟩ := h1
      obtain rfl : a = i := by omega
      obtain rfl : b = j := by omega
      rw [h3.2.2] at e3
      exact absurd e3 hr
    · omega
theorem edI_col {ts : List Tx} {L : List Ed} {i j : Nat} (h : edI ts L i j 4) : edI ts L i (j + 1) 1 := by
  intro e
  rw [h e]
  constructor
  · rintro ⟨h1, h2⟩; exact ⟨h1, by omega⟩
  · rintro ⟨h1, h2⟩
    refine ⟨h1, ?_⟩
    obtain ⟨a, b, _, _, h3, _⟩ := h1
    omega
theorem edI_row {ts : List Tx} {L : List Ed} {i : Nat} (h : edI ts L i 4 1) : edI ts L (i + 1) 0 1 := by
  intro e
  rw [h e]
  constructor
  · rintro ⟨h1, h2⟩; exact ⟨h1, by omega⟩
  · rintro ⟨h1, h2⟩
    refine ⟨h1, ?_⟩
    obtain ⟨a, b, _, _, h3, _⟩ := h1
    omega
theorem edI_start (ts : List Tx) : edI ts [] 0 0 1 := by
  intro e
  constructor
  · intro h; simp at h
  · rintro ⟨⟨a, b, _, _, h3, _⟩, h2⟩
    omega
theorem f195 (xs : List Ed) : FxR 195 [.own 3 (xs.map dgA)] fun r l => r = .own 3 (xs.map dgA) ∧ l = .tup [] := by
  refine fn_ofW false (k := 0) Tryz.func195 (by kernel_rfl) rfl (by kernel_rfl) (by kernel_rfl) (Nat.le_of_ble_eq_true rfl) rfl ⟨_, _, .inl rfl⟩ rfl fun Q hQ => ?_
  simp only [vmA, sN1, reduceIte, sN2, sN3, reduceCtorEq, sN4, sI1, sI2, sI3, sN5, sN6, List.length_map]
  (refine hQ _ ?_; simp only [vmA, sN1, reduceIte, sN2, sN3, reduceCtorEq, sN4, sI1, sI2, sI3, sN5, sN6, Tryz.f195, retG, resL, St.closeVs, St.closeV, leftV, ghostW, List.length_map, take_map_len, Nat.sub_zero, Int.toNat_zero])
theorem f145 (h : Hs) (ho : okH h) (h4 : h.tx.length = 4) : FxR 145 [hA h] fun r l => (∃ L : List Ed, r = .own 3 (L.map dgA) ∧ L.length ≤ 48 ∧ edI h.tx L 4 0 1) ∧ l = .und := by
  refine fn_ofR ⟨false, [], []⟩ Tryz.func145 (by kernel_rfl) rfl (by kernel_rfl) (by kernel_rfl) (Nat.le_of_ble_eq_true rfl) rfl fun Q hQ => ?_
  simp only [vmA, sN1, reduceIte, sN2, sN3, reduceCtorEq, sN4, sI1, sI2, sI3, sN5, sN6, hA, List.length_map]
  refine WT_loopN (fun (zz : Nat × Nat × List Ed) σ => (zz.1 ≤ 4 ∧ zz.2.2.length ≤ 12 * zz.1 ∧ edI h.tx zz.2.2 zz.1 0 1) ∧ σ.sl 12 = .int .i64 zz.1 ∧ σ.sl 11 = .int .i64 h.tx.length ∧ σ.sl 10 = .fro none false (h.tx.map xA) ∧ σ.sl 1 = .ptr 64 1 0 0 ∧ (σ.en 64).live = true ∧ (σ.en 64).gen = 1 ∧ (σ.en 64).frz = false ∧ (σ.en 64).sz = 3 ∧ (σ.en 64).elems = [hA h] ∧ σ.sl 3 = .hd 192 zz.2.1 0 (zz.2.2.length) false ∧ (σ.en 192).live = true ∧ (σ.en 192).gen = zz.2.1 ∧ (σ.en 192).frz = false ∧ (σ.en 192).sz = 3 ∧ (σ.en 192).elems = zz.2.2.map dgA) (fun zz => 4 - zz.1) ((0, 1, [])) 3 3 (by simp [vmI, takeRes, takeV, takeLeaf, eid, hA]) ⟨⟨Nat.zero_le _, Nat.zero_le _, edI_start _⟩, by simp [vmI, takeRes, takeV, takeLeaf, eid, hA], by simp [vmI, takeRes, takeV, takeLeaf, eid, hA], by simp [vmI, takeRes, takeV, takeLeaf, eid, hA], by simp [vmI, takeRes, takeV, takeLeaf, eid, hA], by simp [vmI, takeRes, takeV, takeLeaf, eid, hA], by simp [vmI, takeRes, takeV, takeLeaf, eid, hA], by simp [vmI, takeRes, takeV, takeLeaf, eid, hA], by simp [vmI, takeRes, takeV, takeLeaf, eid, hA], by simp [vmI, takeRes, takeV, takeLeaf, eid, hA], by simp [vmI, takeRes, takeV, takeLeaf, eid, hA], by simp [vmI, takeRes, takeV, takeLeaf, eid, hA], by simp [vmI, takeRes, takeV, takeLeaf, eid, hA], by simp [vmI, takeRes, takeV, takeLeaf, eid, hA], by simp [vmI, takeRes, takeV, takeLeaf, eid, hA], by simp [vmI, takeRes, takeV, takeLeaf, eid, hA]⟩ ?_
  rintro ⟨i, γ, L⟩ σ ⟨hL, e12, e11, e10, e1, m64a, m64b, m64c, m64d, m64e, e3, m192a, m192b, m192c, m192d, m192e⟩
  try dsimp only at e12 e11 e10 e1 m64a m64b m64c m64d m64e e3 m192a m192b m192c m192d m192e hL
  obtain ⟨hi, hn, hL⟩ := hL
  obtain ⟨δ, hδ⟩ : ∃ δ, (σ.en 320).gen + 1 = δ := ⟨_, rfl⟩
  simp only [vmA, sN1, reduceIte, sN2, sN3, reduceCtorEq, sN4, sI1, sI2, sI3, sN5, sN6, e12, e11, e10, e1, m64a, m64b, m64c, m64d, m64e, e3, m192a, m192b, m192c, m192d, m192e, hA, xA, h4, hδ, List.length_map, Option.bind_none]
  refine ⟨fun hlt => ⟨by omega, by omega, ?_⟩, fun hge => ?_⟩
  · skip
    refine WT_loop (fun (zz : Nat × Nat × List Ed) σ => (zz.1 ≤ 4 ∧ zz.2.2.length ≤ 12 * i + 3 * zz.1 ∧ edI h.tx zz.2.2 i zz.1 1) ∧ σ.sl 20 = .int .i64 zz.1 ∧ σ.sl 19 = .int .i64 4 ∧ σ.sl 18 = .fro none false (h.tx.map xA) ∧ σ.sl 12 = .int .i64 i ∧ σ.sl 11 = .int .i64 h.tx.length ∧ σ.sl 10 = .fro none false (h.tx.map xA) ∧ σ.sl 4 = .int .i64 i ∧ σ.sl 5 = .ptr 320 δ 0 0 ∧ (σ.en 320).live = true ∧ (σ.en 320).gen = δ ∧ (σ.en 320).frz = false ∧ (σ.en 320).sz = 5 ∧ (σ.en 320).elems = [xA h.tx[i]!] ∧ σ.sl 1 = .ptr 64 1 0 0 ∧ (σ.en 64).live = true ∧ (σ.en 64).gen = 1 ∧ (σ.en 64).frz = false ∧ (σ.en 64).sz = 3 ∧ (σ.en 64).elems = [hA h] ∧ σ.sl 3 = .hd 192 zz.2.1 0 (zz.2.2.length) false ∧ (σ.en 192).live = true ∧ (σ.en 192).gen = zz.2.1 ∧ (σ.en 192).frz = false ∧ (σ.en 192).sz = 3 ∧ (σ.en 192).elems = zz.2.2.map dgA) (fun zz => 4 - zz.1) ((0, γ, L)) ⟨⟨Nat.zero_le _, hn, hL⟩, by simp [vmI, e12, e11, e10, e1, m64a, m64b, m64c, m64d, m64e, e3, m192a, m192b, m192c, m192d, m192e, hA, h4, xA, hδ], by simp [vmI, e12, e11, e10, e1, m64a, m64b, m64c, m64d, m64e, e3, m192a, m192b, m192c, m192d, m192e, hA, h4, xA, hδ], by simp [vmI, e12, e11, e10, e1, m64a, m64b, m64c, m64d, m64e, e3, m192a, m192b, m192c, m192d, m192e, hA, h4, xA, hδ], by simp [vmI, e12, e11, e10, e1, m64a, m64b, m64c, m64d, m64e, e3, m192a, m192b, m192c, m192d, m192e, hA, h4, xA, hδ], by simp [vmI, e12, e11, e10, e1, m64a, m64b, m64c, m64d, m64e, e3, m192a, m192b, m192c, m192d, m192e, hA, h4, xA, hδ], by simp [vmI, e12, e11, e10, e1, m64a, m64b, m64c, m64d, m64e, e3, m192a, m192b, m192c, m192d, m192e, hA, h4, xA, hδ], by simp [vmI, e12, e11, e10, e1, m64a, m64b, m64c, m64d, m64e, e3, m192a, m192b, m192c, m192d, m192e, hA, h4, xA, hδ], by simp [vmI, e12, e11, e10, e1, m64a, m64b, m64c, m64d, m64e, e3, m192a, m192b, m192c, m192d, m192e, hA, h4, xA, hδ], by simp [vmI, e12, e11, e10, e1, m64a, m64b, m64c, m64d, m64e, e3, m192a, m192b, m192c, m192d, m192e, hA, h4, xA, hδ], by simp [vmI, e12, e11, e10, e1, m64a, m64b, m64c, m64d, m64e, e3, m192a, m192b, m192c, m192d, m192e, hA, h4, xA, hδ], by simp [vmI, e12, e11, e10, e1, m64a, m64b, m64c, m64d, m64e, e3, m192a, m192b, m192c, m192d, m192e, hA, h4, xA, hδ], by simp [vmI, e12, e11, e10, e1, m64a, m64b, m64c, m64d, m64e, e3, m192a, m192b, m192c, m192d, m192e, hA, h4, xA, hδ], by simp [vmI, e12, e11, e10, e1, m64a, m64b, m64c, m64d, m64e, e3, m192a, m192b, m192c, m192d, m192e, hA, h4, xA, hδ], by simp [vmI, e12, e11, e10, e1, m64a, m64b, m64c, m64d, m64e, e3, m192a, m192b, m192c, m192d, m192e, hA, h4, xA, hδ], by simp [vmI, e12, e11, e10, e1, m64a, m64b, m64c, m64d, m64e, e3, m192a, m192b, m192c, m192d, m192e, hA, h4, xA, hδ], by simp [vmI, e12, e11, e10, e1, m64a, m64b, m64c, m64d, m64e, e3, m192a, m192b, m192c, m192d, m192e, hA, h4, xA, hδ], by simp [vmI, e12, e11, e10, e1, m64a, m64b, m64c, m64d, m64e, e3, m192a, m192b, m192c, m192d, m192e, hA, h4, xA, hδ], by simp [vmI, e12, e11, e10, e1, m64a, m64b, m64c, m64d, m64e, e3, m192a, m192b, m192c, m192d, m192e, hA, h4, xA, hδ], by simp [vmI, e12, e11, e10, e1, m64a, m64b, m64c, m64d, m64e, e3, m192a, m192b, m192c, m192d, m192e, hA, h4, xA, hδ], by simp [vmI, e12, e11, e10, e1, m64a, m64b, m64c, m64d, m64e, e3, m192a, m192b, m192c, m192d, m192e, hA, h4, xA, hδ], by simp [vmI, e12, e11, e10, e1, m64a, m64b, m64c, m64d, m64e, e3, m192a, m192b, m192c, m192d, m192e, hA, h4, xA, hδ], by simp [vmI, e12, e11, e10, e1, m64a, m64b, m64c, m64d, m64e, e3, m192a, m192b, m192c, m192d, m192e, hA, h4, xA, hδ], by simp [vmI, e12, e11, e10, e1, m64a, m64b, m64c, m64d, m64e, e3, m192a, m192b, m192c, m192d, m192e, hA, h4, xA, hδ], by simp [vmI, e12, e11, e10, e1, m64a, m64b, m64c, m64d, m64e, e3, m192a, m192b, m192c, m192d, m192e, hA, h4, xA, hδ], by simp [vmI, e12, e11, e10, e1, m64a, m64b, m64c, m64d, m64e, e3, m192a, m192b, m192c, m192d, m192e, hA, h4, xA, hδ]⟩ ?_
    clear e12 e11 e10 e1 m64a m64b m64c m64d m64e e3 m192a m192b m192c m192d m192e
    rintro ⟨j, γ, L⟩ σ ⟨hL, e20, e19, e18, e12, e11, e10, e4, e5, m320a, m320b, m320c, m320d, m320e, e1, m64a, m64b, m64c, m64d, m64e, e3, m192a, m192b, m192c, m192d, m192e⟩
    try dsimp only at e20 e19 e18 e12 e11 e10 e4 e5 m320a m320b m320c m320d m320e e1 m64a m64b m64c m64d m64e e3 m192a m192b m192c m192d m192e hL
    obtain ⟨hj, hn2, hL⟩ := hL
    obtain ⟨ε, hε⟩ : ∃ ε, (σ.en 448).gen + 1 = ε := ⟨_, rfl⟩
    simp only [vmA, sN1, reduceIte, sN2, sN3, reduceCtorEq, sN4, sI1, sI2, sI3, sN5, sN6, e20, e19, e18, e12, e11, e10, e4, e5, m320a, m320b, m320c, m320d, m320e, e1, m64a, m64b, m64c, m64d, m64e, e3, m192a, m192b, m192c, m192d, m192e, hA, xA, h4, hε, List.length_map, Option.bind_none]
    refine ⟨fun hlt2 => ⟨by omega, by omega, ?_⟩, fun hge2 => ?_⟩
    · skip
      refine WT_loop (fun (zz : Nat × Nat × List Ed) σ => (zz.1 ≤ 3 ∧ zz.2.2.length ≤ 12 * i + 3 * j + zz.1 ∧ edI h.tx zz.2.2 i j ((zz.1 : Int) + 1)) ∧ σ.sl 8 = .int .i64 ((zz.1 : Int) + 1) ∧ σ.sl 20 = .int .i64 j ∧ σ.sl 19 = .int .i64 4 ∧ σ.sl 18 = .fro none false (h.tx.map xA) ∧ σ.sl 12 = .int .i64 i ∧ σ.sl 11 = .int .i64 h.tx.length ∧ σ.sl 10 = .fro none false (h.tx.map xA) ∧ σ.sl 4 = .int .i64 i ∧ σ.sl 6 = .int .i64 j ∧ σ.sl 5 = .ptr 320 δ 0 0 ∧ (σ.en 320).live = true ∧ (σ.en 320).gen = δ ∧ (σ.en 320).frz = false ∧ (σ.en 320).sz = 5 ∧ (σ.en 320).elems = [xA h.tx[i]!] ∧ σ.sl 7 = .ptr 448 ε 0 0 ∧ (σ.en 448).live = true ∧ (σ.en 448).gen = ε ∧ (σ.en 448).frz = false ∧ (σ.en 448).sz = 5 ∧ (σ.en 448).elems = [xA h.tx[j]!] ∧ σ.sl 1 = .ptr 64 1 0 0 ∧ (σ.en 64).live = true ∧ (σ.en 64).gen = 1 ∧ (σ.en 64).frz = false ∧ (σ.en 64).sz = 3 ∧ (σ.en 64).elems = [hA h] ∧ σ.sl 3 = .hd 192 zz.2.1 0 (zz.2.2.length) false ∧ (σ.en 192).live = true ∧ (σ.en 192).gen = zz.2.1 ∧ (σ.en 192).frz = false ∧ (σ.en 192).sz = 3 ∧ (σ.en 192).elems = zz.2.2.map dgA) (fun zz => 3 - zz.1) ((0, γ, L)) ⟨⟨Nat.zero_le _, hn2, hL⟩, by simp [vmI, e20, e19, e18, e12, e11, e10, e4, e5, m320a, m320b, m320c, m320d, m320e, e1, m64a, m64b, m64c, m64d, m64e, e3, m192a, m192b, m192c, m192d, m192e, hA, h4, xA, hε], by simp [vmI, e20, e19, e18, e12, e11, e10, e4, e5, m320a, m320b, m320c, m320d, m320e, e1, m64a, m64b, m64c, m64d, m64e, e3, m192a, m192b, m192c, m192d, m192e, hA, h4, xA, hε], by simp [vmI, e20, e19, e18, e12, e11, e10, e4, e5, m320a, m320b, m320c, m320d, m320e, e1, m64a, m64b, m64c, m64d, m64e, e3, m192a, m192b, m192c, m192d, m192e, hA, h4, xA, hε], by simp [vmI, e20, e19, e18, e12, e11, e10, e4, e5, m320a, m320b, m320c, m320d, m320e, e1, m64a, m64b, m64c, m64d, m64e, e3, m192a, m192b, m192c, m192d, m192e, hA, h4, xA, hε], by simp [vmI, e20, e19, e18, e12, e11, e10, e4, e5, m320a, m320b, m320c, m320d, m320e, e1, m64a, m64b, m64c, m64d, m64e, e3, m192a, m192b, m192c, m192d, m192e, hA, h4, xA, hε], by simp [vmI, e20, e19, e18, e12, e11, e10, e4, e5, m320a, m320b, m320c, m320d, m320e, e1, m64a, m64b, m64c, m64d, m64e, e3, m192a, m192b, m192c, m192d, m192e, hA, h4, xA, hε], by simp [vmI, e20, e19, e18, e12, e11, e10, e4, e5, m320a, m320b, m320c, m320d, m320e, e1, m64a, m64b, m64c, m64d, m64e, e3, m192a, m192b, m192c, m192d, m192e, hA, h4, xA, hε], by simp [vmI, e20, e19, e18, e12, e11, e10, e4, e5, m320a, m320b, m320c, m320d, m320e, e1, m64a, m64b, m64c, m64d, m64e, e3, m192a, m192b, m192c, m192d, m192e, hA, h4, xA, hε], by simp [vmI, e20, e19, e18, e12, e11, e10, e4, e5, m320a, m320b, m320c, m320d, m320e, e1, m64a, m64b, m64c, m64d, m64e, e3, m192a, m192b, m192c, m192d, m192e, hA, h4, xA, hε], by simp [vmI, e20, e19, e18, e12, e11, e10, e4, e5, m320a, m320b, m320c, m320d, m320e, e1, m64a, m64b, m64c, m64d, m64e, e3, m192a, m192b, m192c, m192d, m192e, hA, h4, xA, hε], by simp [vmI, e20, e19, e18, e12, e11, e10, e4, e5, m320a, m320b, m320c, m320d, m320e, e1, m64a, m64b, m64c, m64d, m64e, e3, m192a, m192b, m192c, m192d, m192e, hA, h4, xA, hε], by simp [vmI, e20, e19, e18, e12, e11, e10, e4, e5, m320a, m320b, m320c, m320d, m320e, e1, m64a, m64b, m64c, m64d, m64e, e3, m192a, m192b, m192c, m192d, m192e, hA, h4, xA, hε], by simp [vmI, e20, e19, e18, e12, e11, e10, e4, e5, m320a, m320b, m320c, m320d, m320e, e1, m64a, m64b, m64c, m64d, m64e, e3, m192a, m192b, m192c, m192d, m192e, hA, h4, xA, hε], by simp [vmI, e20, e19, e18, e12, e11, e10, e4, e5, m320a, m320b, m320c, m320d, m320e, e1, m64a, m64b, m64c, m64d, m64e, e3, m192a, m192b, m192c, m192d, m192e, hA, h4, xA, hε], by simp [vmI, e20, e19, e18, e12, e11, e10, e4, e5, m320a, m320b, m320c, m320d, m320e, e1, m64a, m64b, m64c, m64d, m64e, e3, m192a, m192b, m192c, m192d, m192e, hA, h4, xA, hε], by simp [vmI, e20, e19, e18, e12, e11, e10, e4, e5, m320a, m320b, m320c, m320d, m320e, e1, m64a, m64b, m64c, m64d, m64e, e3, m192a, m192b, m192c, m192d, m192e, hA, h4, xA, hε], by simp [vmI, e20, e19, e18, e12, e11, e10, e4, e5, m320a, m320b, m320c, m320d, m320e, e1, m64a, m64b, m64c, m64d, m64e, e3, m192a, m192b, m192c, m192d, m192e, hA, h4, xA, hε], by simp [vmI, e20, e19, e18, e12, e11, e10, e4, e5, m320a, m320b, m320c, m320d, m320e, e1, m64a, m64b, m64c, m64d, m64e, e3, m192a, m192b, m192c, m192d, m192e, hA, h4, xA, hε], by simp [vmI, e20, e19, e18, e12, e11, e10, e4, e5, m320a, m320b, m320c, m320d, m320e, e1, m64a, m64b, m64c, m64d, m64e, e3, m192a, m192b, m192c, m192d, m192e, hA, h4, xA, hε], by simp [vmI, e20, e19, e18, e12, e11, e10, e4, e5, m320a, m320b, m320c, m320d, m320e, e1, m64a, m64b, m64c, m64d, m64e, e3, m192a, m192b, m192c, m192d, m192e, hA, h4, xA, hε], by simp [vmI, e20, e19, e18, e12, e11, e10, e4, e5, m320a, m320b, m320c, m320d, m320e, e1, m64a, m64b, m64c, m64d, m64e, e3, m192a, m192b, m192c, m192d, m192e, hA, h4, xA, hε], by simp [vmI, e20, e19, e18, e12, e11, e10, e4, e5, m320a, m320b, m320c, m320d, m320e, e1, m64a, m64b, m64c, m64d, m64e, e3, m192a, m192b, m192c, m192d, m192e, hA, h4, xA, hε], by simp [vmI, e20, e19, e18, e12, e11, e10, e4, e5, m320a, m320b, m320c, m320d, m320e, e1, m64a, m64b, m64c, m64d, m64e, e3, m192a, m192b, m192c, m192d, m192e, hA, h4, xA, hε], by simp [vmI, e20, e19, e18, e12, e11, e10, e4, e5, m320a, m320b, m320c, m320d, m320e, e1, m64a, m64b, m64c, m64d, m64e, e3, m192a, m192b, m192c, m192d, m192e, hA, h4, xA, hε], by simp [vmI, e20, e19, e18, e12, e11, e10, e4, e5, m320a, m320b, m320c, m320d, m320e, e1, m64a, m64b, m64c, m64d, m64e, e3, m192a, m192b, m192c, m192d, m192e, hA, h4, xA, hε], by simp [vmI, e20, e19, e18, e12, e11, e10, e4, e5, m320a, m320b, m320c, m320d, m320e, e1, m64a, m64b, m64c, m64d, m64e, e3, m192a, m192b, m192c, m192d, m192e, hA, h4, xA, hε], by simp [vmI, e20, e19, e18, e12, e11, e10, e4, e5, m320a, m320b, m320c, m320d, m320e, e1, m64a, m64b, m64c, m64d, m64e, e3, m192a, m192b, m192c, m192d, m192e, hA, h4, xA, hε], by simp [vmI, e20, e19, e18, e12, e11, e10, e4, e5, m320a, m320b, m320c, m320d, m320e, e1, m64a, m64b, m64c, m64d, m64e, e3, m192a, m192b, m192c, m192d, m192e, hA, h4, xA, hε], by simp [vmI, e20, e19, e18, e12, e11, e10, e4, e5, m320a, m320b, m320c, m320d, m320e, e1, m64a, m64b, m64c, m64d, m64e, e3, m192a, m192b, m192c, m192d, m192e, hA, h4, xA, hε], by simp [vmI, e20, e19, e18, e12, e11, e10, e4, e5, m320a, m320b, m320c, m320d, m320e, e1, m64a, m64b, m64c, m64d, m64e, e3, m192a, m192b, m192c, m192d, m192e, hA, h4, xA, hε], by simp [vmI, e20, e19, e18, e12, e11, e10, e4, e5, m320a, m320b, m320c, m320d, m320e, e1, m64a, m64b, m64c, m64d, m64e, e3, m192a, m192b, m192c, m192d, m192e, hA, h4, xA, hε], by simp [vmI, e20, e19, e18, e12, e11, e10, e4, e5, m320a, m320b, m320c, m320d, m320e, e1, m64a, m64b, m64c, m64d, m64e, e3, m192a, m192b, m192c, m192d, m192e, hA, h4, xA, hε], by simp [vmI, e20, e19, e18, e12, e11, e10, e4, e5, m320a, m320b, m320c, m320d, m320e, e1, m64a, m64b, m64c, m64d, m64e, e3, m192a, m192b, m192c, m192d, m192e, hA, h4, xA, hε]⟩ ?_
      clear e20 e19 e18 e12 e11 e10 e4 e5 m320a m320b m320c m320d m320e e1 m64a m64b m64c m64d m64e e3 m192a m192b m192c m192d m192e
      rintro ⟨k, γ, L⟩ σ ⟨hL, e8, e20, e19, e18, e12, e11, e10, e4, e6, e5, m320a, m320b, m320c, m320d, m320e, e7, m448a, m448b, m448c, m448d, m448e, e1, m64a, m64b, m64c, m64d, m64e, e3, m192a, m192b, m192c, m192d, m192e⟩
      try dsimp only at e8 e20 e19 e18 e12 e11 e10 e4 e6 e5 m320a m320b m320c m320d m320e e7 m448a m448b m448c m448d m448e e1 m64a m64b m64c m64d m64e e3 m192a m192b m192c m192d m192e hL
      obtain ⟨hk, hn3, hL⟩ := hL
      simp only [vmA, sN1, reduceIte, sN2, sN3, reduceCtorEq, sN4, sI1, sI2, sI3, sN5, sN6, e8, e20, e19, e18, e12, e11, e10, e4, e6, e5, m320a, m320b, m320c, m320d, m320e, e7, m448a, m448b, m448c, m448d, m448e, e1, m64a, m64b, m64c, m64d, m64e, e3, m192a, m192b, m192c, m192d, m192e, hA, xA, h4, List.length_map, Option.bind_none, dgA]
      have oi := ho.at (i := i) (by omega)
      have oj := ho.at (i := j) (by omega)
      have nx : ¬ edR h.tx i j ((k : Int) + 1) → edI h.tx L i j (((k + 1 : Nat) : Int) + 1) := fun hx => by
        have := edI_no hL hx
        rwa [show (((k + 1 : Nat) : Int) + 1) = (k : Int) + 1 + 1 by omega]
      refine ⟨fun hlt3 => ⟨fun h1 => ⟨fun h2 => ⟨fun h3 => callD (f194 h.tx[i]! h.tx[j]! ((k : Int) + 1) oi oj) ?_, fun h3 => ?_⟩, fun h2 => ?_⟩, fun h1 => ?_⟩, fun hge3 => ?_⟩
      · simp only [vmA, sN1, reduceIte, sN2, sN3, reduceCtorEq, sN4, sI1, sI2, sI3, sN5, sN6, e8, e20, e19, e18, e12, e11, e10, e4, e6, e5, m320a, m320b, m320c, m320d, m320e, e7, m448a, m448b, m448c, m448d, m448e, e1, m64a, m64b, m64c, m64d, m64e, e3, m192a, m192b, m192c, m192d, m192e, hA, xA, h4, List.length_map, Option.bind_none, dgA]
        refine ⟨fun h5 => ?_, fun h5 => ?_⟩
        · rw [wr (by omega)]
          refine ⟨⟨by omega, by omega⟩, (k + 1, γ + 1, L ++ [⟨i, j, (k : Int) + 1⟩]), ⟨⟨by dsimp only; omega, by dsimp only; rw [List.length_append]; simp; omega, ?_⟩, rfl, ?_⟩, by dsimp only; omega⟩
          · have := edI_yes hL (by omega) (by omega) (by omega) ⟨fun e => h1 (by rw [e]), h2, h3, h5⟩
            dsimp only
            rwa [show (((k + 1 : Nat) : Int) + 1) = (k : Int) + 1 + 1 by omega]
          · dsimp only
            rw [List.length_append, List.map_append]
            exact ⟨rfl, rfl, rfl⟩
        · rw [wr (by omega)]
          exact ⟨(k + 1, γ, L), ⟨⟨by dsimp only; omega, by dsimp only; omega, nx fun e => h5 e.2.2.2⟩, rfl, rfl, rfl, rfl⟩, by dsimp only; omega⟩
      · rw [wr (by omega)]
        exact ⟨(k + 1, γ, L), ⟨⟨by dsimp only; omega, by dsimp only; omega, nx fun e => h3 e.2.2.1⟩, rfl, rfl, rfl, rfl⟩, by dsimp only; omega⟩
      · rw [wr (by omega)]
        exact ⟨(k + 1, γ, L), ⟨⟨by dsimp only; omega, by dsimp only; omega, nx fun e => h2 e.2.1⟩, rfl, rfl, rfl, rfl⟩, by dsimp only; omega⟩
      · rw [wr (by omega)]
        exact ⟨(k + 1, γ, L), ⟨⟨by dsimp only; omega, by dsimp only; omega, nx fun e => e.1 (by omega)⟩, rfl, rfl, rfl, rfl⟩, by dsimp only; omega⟩
      · rw [wr (by omega)]
        obtain rfl : k = 3 := by omega
        exact ⟨(j + 1, γ, L), ⟨⟨by dsimp only; omega, by dsimp only; omega, edI_col hL⟩, rfl, rfl, rfl, rfl⟩, by dsimp only; omega⟩
    · rw [wr (by omega)]
      obtain rfl : j = 4 := by omega
      exact ⟨(i + 1, γ, L), ⟨⟨by dsimp only; omega, by dsimp only; omega, edI_row hL⟩, rfl, rfl, rfl, rfl⟩, by dsimp only; omega⟩
  · obtain rfl : i = 4 := by omega
    refine callR (f195 L) ?_
    rintro _ _ ⟨rfl, rfl⟩
    simp only [vmA, sN1, reduceIte, sN2, sN3, reduceCtorEq, sN4, sI1, sI2, sI3, sN5, sN6, e12, e11, e10, e1, m64a, m64b, m64c, m64d, m64e, e3, m192a, m192b, m192c, m192d, m192e, List.length_map]
    (refine hQ _ ?_; simp only [vmA, sN1, reduceIte, sN2, sN3, reduceCtorEq, sN4, sI1, sI2, sI3, sN5, sN6, Tryz.f145, retG, resL, St.closeVs, St.closeV, List.length_map, take_map_len])
    exact ⟨L, rfl, by omega, hL⟩
