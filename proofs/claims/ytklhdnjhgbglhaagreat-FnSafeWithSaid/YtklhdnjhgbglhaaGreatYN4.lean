/- WALK, or plain laws for it: theorem f<k> says what function k returns. Conditions: none but those ahead of each theorem. -/
import Derived.Test.YtklhdnjhgbglhaaGreatYN3
set_option linter.unusedVariables false
set_option linter.unusedSimpArgs false
open Nat renaming reduceEqDiff → sN1, reduceAdd → sN2, reduceBEq → sN3, reduceLT → sN4, reduceMul → sN5, reduceLeDiff → sN6, reduceSub → sN7
open Int renaming reduceLE → sI1, reduceLT → sI2, reduceEq → sI3
open Go Go.Vm Go.Proofs
set_option maxRecDepth 100000
set_option maxHeartbeats 8000000
set_option maxHeartbeats 8000000
theorem halfU (n : Nat) (h : n ≤ 4194304) : IntKind.i64.wrap ((IntKind.u64.wrap (n : Int)).fdiv (2 ^ min (Int.toNat 1) IntKind.u64.bits)) = ((n / 2 : Nat) : Int) := by
  have h1 : IntKind.u64.wrap (n : Int) = n := by simp [IntKind.wrap, IntKind.bits, IntKind.signed]; omega
  have h2 : ((2 : Int) ^ min (Int.toNat 1) IntKind.u64.bits) = 2 := by decide
  rw [h1, h2, Int.fdiv_eq_ediv_of_nonneg _ (by decide), wr (by omega)]
  omega
theorem up_length {β : Type} [Inhabited β] (l : List β) (i j : Nat) : (up l i j).length = l.length := mkL_length _ _
theorem WT_meet {C : Cfg} {p : Prop} {c : Code} {Q : Ex → St → Prop} {tq : Tag Q} {σ1 σ2 : St} (P : St → Prop) (h1 : p → P σ1) (h2 : ¬ p → P σ2) (h : ∀ σ, P σ → WT C D c Q σ tq) : (p → WT C D c Q σ1 tq) ∧ (¬ p → WT C D c Q σ2 tq) := ⟨fun x => h _ (h1 x), fun x => h _ (h2 x)⟩
set_option maxHeartbeats 8000000 in
theorem f241 (cf : (Nat × Ver) → (Nat × Ver) → Int) (lt : (Nat × Ver) → (Nat × Ver) → Prop) (ht : ∀ x y z, lt x y → lt y z → lt x z) : ∀ (s : Nat) (zs : List (Nat × Ver)) (a m b : Nat), b - a ≤ s → a < m → m < b → b ≤ zs.length → zs.length ≤ 1048576 →
    (∀ x y, x ∈ zs → y ∈ zs → Fx 182 [gA x.2, gA y.2] (.int .i64 (cf x y))) → SmPre cf lt a m b zs →
    FxR 241 [.own 4 (zs.map gT), .int .i64 a, .int .i64 m, .int .i64 b, .clo 182 []] fun r l => r = .tup [] ∧ ∃ ys, l = .own 4 (ys.map gT) ∧ PIn a b zs ys ∧ Asc lt a b ys := by
  intro s
  induction s with
  | zero => intro zs a m b h1 h2 h3; omega
  | succ s ih =>
  intro zs a m b hs ham hmb hb hl hc hpre
  refine fn_ofWN ⟨false, [70, 74, 122, 126], []⟩ (k := 0) Tryz.func241 (by kernel_rfl) rfl (by kernel_rfl) (by kernel_rfl) (Nat.le_of_ble_eq_true rfl) rfl ⟨_, _, .inl rfl⟩ rfl fun Q hQ hN => ?_
  simp only [tr_seq, tr_block, tr_loop, tr_cond, tr_skip, tr_exit, tr_ret, tr_reg]
  rw [tr_calm (by kernel_rfl), tr_cut 15 (by kernel_rfl), tr_calm (by kernel_rfl), tr_cut 15 (by kernel_rfl), tr_calm (by kernel_rfl)]
  have hw1 : IntKind.i64.wrap ((m : Int) - a) = ((m - a : Nat) : Int) := by rw [wr (by omega)]; omega
  have hw2 : IntKind.i64.wrap ((b : Int) - m) = ((b - m : Nat) : Int) := by rw [wr (by omega)]; omega
  by_cases c1 : m = a + 1
  · subst c1
    have hk1 : (((a + 1 - a : Nat) : Int) = 1) = True := eq_true (by omega)
    simp only [vmA, sN1, reduceIte, sN2, sN3, reduceCtorEq, sN4, sI1, sI2, sI3, sN5, sN6, List.length_map, hw1, hk1, true_implies, not_true_eq_false, false_implies, tt128]
    refine WT_loop (fun (p : Nat × Nat) σ => ((a + 1 ≤ p.1 ∧ p.1 ≤ p.2 ∧ p.2 ≤ b) ∧ (∀ h, a + 1 ≤ h → h < p.1 → lt zs[h]! zs[a]!) ∧ ∀ h, p.2 ≤ h → h < b → lt zs[a]! zs[h]!) ∧ σ.sl 0 = .hd 0 1 0 zs.length false ∧ (σ.en 0).live = true ∧ (σ.en 0).gen = 1 ∧ (σ.en 0).frz = false ∧ (σ.en 0).sz = 4 ∧ (σ.en 0).elems = zs.map gT ∧ σ.sl 1 = .int .i64 a ∧ σ.sl 4 = .clo 182 [] ∧ σ.sl 10 = .int .i64 p.1 ∧ σ.sl 11 = .int .i64 p.2) (fun p => p.2 - p.1) (a + 1, b) ⟨⟨⟨by dsimp only; omega, by dsimp only; omega, by dsimp only; omega⟩, fun h h1 h2 => absurd h1 (by dsimp only at h2; omega), fun h h1 h2 => absurd h1 (by dsimp only; omega)⟩, by simp [vmI], by simp [vmI], by simp [vmI], by simp [vmI], by simp [vmI], by simp [vmI], by simp [vmI], by simp [vmI], by simp [vmI], by simp [vmI]⟩ ?_
    rintro ⟨i, j⟩ σ ⟨⟨⟨hi, hij, hj⟩, h1, h2⟩, e0, l1, l2, l3, l4, l5, e1, e4, e10, e11⟩
    dsimp only at hi hij hj h1 h2 e10 e11
    by_cases hlt : i < j
    · have hg : ((i : Int) < j) = True := eq_true (by omega)
      have hw3 : IntKind.i64.wrap ((i : Int) + j) = ((i + j : Nat) : Int) := by rw [wr (by omega)]; omega
      have hh := halfU (i + j) (by omega)
      simp only [vmA, sN1, reduceIte, sN2, sN3, reduceCtorEq, sN4, sI1, sI2, sI3, sN5, sN6, e0, l1, l2, l3, l4, l5, e1, e4, e10, e11, List.length_map, hg, hw3, hh, Int.toNat_natCast, gT, gO, tt128, true_implies, not_true_eq_false, false_implies]
      obtain ⟨h, hhd⟩ : ∃ h, (i + j) / 2 = h := ⟨_, rfl⟩
      rw [hhd]
      refine ⟨by omega, by omega, by omega, by omega, callD (hc zs[h]! zs[a]! (memG (by omega)) (memG (by omega))) ?_⟩
      simp only [vmA, sN1, reduceIte, sN2, sN3, reduceCtorEq, sN4, sI1, sI2, sI3, sN5, sN6, e0, l1, l2, l3, l4, l5, e1, e4, e10, e11, List.length_map]
      refine ⟨fun hneg => ?_, fun hpos => ?_⟩
      · rw [wr (by omega)]
        have hd := (hpre.dec a h (Nat.le_refl _) (by omega) (by omega) (by omega)).1 hneg
        exact ⟨(h + 1, j), ⟨⟨⟨by dsimp only; omega, by dsimp only; omega, hj⟩, fun k q1 q2 => hpre.right.le ht q1 (by dsimp only at q2; omega) (by omega) hd, h2⟩, leafJ (by dsimp only; omega), rfl⟩, by dsimp only; omega⟩
      · have hd := (hpre.dec a h (Nat.le_refl _) (by omega) (by omega) (by omega)).2 hpos
        exact ⟨(i, h), ⟨⟨⟨hi, by dsimp only; omega, by dsimp only; omega⟩, h1, fun k q1 q2 => hpre.right.ge ht (by omega) q1 q2 hd⟩, rfl, rfl⟩, by dsimp only; omega⟩
    · have hg : ((i : Int) < j) = False := eq_false (by omega)
      obtain rfl : i = j := by omega
      simp only [vmA, sN1, reduceIte, sN2, sN3, reduceCtorEq, sN4, sI1, sI2, sI3, sN5, sN6, e0, l1, l2, l3, l4, l5, e1, e4, e10, e11, List.length_map, hg]
      refine WT_loop (fun (k : Nat) σ => (a ≤ k ∧ k ≤ i - 1) ∧ σ.sl 0 = .hd 0 1 0 zs.length false ∧ (σ.en 0).live = true ∧ (σ.en 0).gen = 1 ∧ (σ.en 0).frz = false ∧ (σ.en 0).sz = 4 ∧ (σ.en 0).elems = (up zs a k).map gT ∧ σ.sl 10 = .int .i64 i ∧ σ.sl 13 = .int .i64 k) (fun k => i - k) a ⟨⟨by omega, by omega⟩, by simp [vmI, e0], by simp [vmI, l1], by simp [vmI, l2], by simp [vmI, l3], by simp [vmI, l4], by simp [vmI, l5, up_self], by simp [vmI, e10], by simp [vmI]⟩ ?_
      clear e0 l1 l2 l3 l4 l5 e1 e4 e10 e11
      rintro k σ ⟨⟨hk0, hk1⟩, e0, l1, l2, l3, l4, l5, e10, e13⟩
      have hw3 : IntKind.i64.wrap ((i : Int) - 1) = ((i - 1 : Nat) : Int) := by rw [wr (by omega)]; omega
      have hxl : (up zs a k).length = zs.length := up_length _ _ _
      have hst := fun h : k + 1 < zs.length => up_step (l := zs) hk0 h
      obtain ⟨xs, hxs⟩ : ∃ xs, up zs a k = xs := ⟨_, rfl⟩
      rw [hxs] at l5 hxl hst
      by_cases hlt2 : k < i - 1
      · have hg2 : ((k : Int) < ((i - 1 : Nat) : Int)) = True := eq_true (by omega)
        have hw4 : IntKind.i64.wrap ((k : Int) + 1) = ((k + 1 : Nat) : Int) := by rw [wr (by omega)]; omega
        have hi1 : (k < zs.length) = True := eq_true (by omega)
        have hi2 : (k + 1 < zs.length) = True := eq_true (by omega)
        have hn1 : (k + 1 = k) = False := eq_false (by omega)
        have hn2 : (k = k + 1) = False := eq_false (by omega)
        simp only [vmA, sN1, reduceIte, sN2, sN3, reduceCtorEq, sN4, sI1, sI2, sI3, sN5, sN6, e0, l1, l2, l3, l4, l5, e10, e13, List.length_map, hxl, hw3, hg2, hw4, Int.toNat_natCast, gT, gO, List.getElem?_set_self, List.getElem?_set_ne, hi1, hi2, hn1, hn2, List.length_set, not_false_eq_true]
        refine ⟨by omega, by omega, by omega, by omega, k + 1, ⟨⟨by omega, by omega⟩, ?_, rfl⟩, by omega⟩
        have := fun h1 h2 => @swap_fin xs k (k + 1) (by omega) h1 h2
        rw [hst (by omega)] at this
        exact this _ _
      · have hg2 : ((k : Int) < ((i - 1 : Nat) : Int)) = False := eq_false (by omega)
        simp only [vmA, sN1, reduceIte, sN2, sN3, reduceCtorEq, sN4, sI1, sI2, sI3, sN5, sN6, e0, l1, l2, l3, l4, l5, e10, e13, List.length_map, hxl, hw3, hg2]
        obtain rfl : k = i - 1 := by omega
        (refine hQ _ ?_; simp only [vmA, sN1, reduceIte, sN2, sN3, reduceCtorEq, sN4, sI1, sI2, sI3, sN5, sN6, Tryz.f241, retG, resL, St.closeVs, St.closeV, leftV, ghostW, e0, l1, l2, l3, l4, l5, List.length_map, hxl])
        refine ⟨xs, by rw [List.take_of_length_le (by simp; omega)], ?_, ?_⟩
        · have := PIn.up (a := a) (b := b) (i := a) (l := zs) (Nat.le_refl _) hb (i - 1 - a) (by omega)
          rw [show a + (i - 1 - a) = i - 1 by omega, hxs] at this
          exact this
        · rw [← hxs]; exact asc_up hpre.right hi hj hb h1 h2
  by_cases c2 : b = m + 1
  · subst c2
    have hk1 : (((m - a : Nat) : Int) = 1) = False := eq_false (by omega)
    have hk2 : (((m + 1 - m : Nat) : Int) = 1) = True := eq_true (by omega)
    simp only [vmA, sN1, reduceIte, sN2, sN3, reduceCtorEq, sN4, sI1, sI2, sI3, sN5, sN6, List.length_map, hw1, hw2, hk1, hk2, tt128]
    refine WT_loop (fun (p : Nat × Nat) σ => ((a ≤ p.1 ∧ p.1 ≤ p.2 ∧ p.2 ≤ m) ∧ (∀ h, a ≤ h → h < p.1 → lt zs[h]! zs[m]!) ∧ ∀ h, p.2 ≤ h → h < m → lt zs[m]! zs[h]!) ∧ σ.sl 0 = .hd 0 1 0 zs.length false ∧ (σ.en 0).live = true ∧ (σ.en 0).gen = 1 ∧ (σ.en 0).frz = false ∧ (σ.en 0).sz = 4 ∧ (σ.en 0).elems = zs.map gT ∧ σ.sl 2 = .int .i64 m ∧ σ.sl 4 = .clo 182 [] ∧ σ.sl 14 = .int .i64 p.1 ∧ σ.sl 15 = .int .i64 p.2) (fun p => p.2 - p.1) (a, m) ⟨⟨⟨by dsimp only; omega, by dsimp only; omega, by dsimp only; omega⟩, fun h h1 h2 => absurd h1 (by dsimp only at h2; omega), fun h h1 h2 => absurd h1 (by dsimp only; omega)⟩, by simp [vmI], by simp [vmI], by simp [vmI], by simp [vmI], by simp [vmI], by simp [vmI], by simp [vmI], by simp [vmI], by simp [vmI], by simp [vmI]⟩ ?_
    rintro ⟨i, j⟩ σ ⟨⟨⟨hi, hij, hj⟩, h1, h2⟩, e0, l1, l2, l3, l4, l5, e2, e4, e14, e15⟩
    dsimp only at hi hij hj h1 h2 e14 e15
    by_cases hlt : i < j
    · have hg : ((i : Int) < j) = True := eq_true (by omega)
      have hw3 : IntKind.i64.wrap ((i : Int) + j) = ((i + j : Nat) : Int) := by rw [wr (by omega)]; omega
      have hh := halfU (i + j) (by omega)
      simp only [vmA, sN1, reduceIte, sN2, sN3, reduceCtorEq, sN4, sI1, sI2, sI3, sN5, sN6, e0, l1, l2, l3, l4, l5, e2, e4, e14, e15, List.length_map, hg, hw3, hh, Int.toNat_natCast, gT, gO, tt128]
      obtain ⟨h, hhd⟩ : ∃ h, (i + j) / 2 = h := ⟨_, rfl⟩
      rw [hhd]
      refine ⟨by omega, by omega, by omega, by omega, callD (hc zs[m]! zs[h]! (memG (by omega)) (memG (by omega))) ?_⟩
      simp only [vmA, sN1, reduceIte, sN2, sN3, reduceCtorEq, sN4, sI1, sI2, sI3, sN5, sN6, e0, l1, l2, l3, l4, l5, e2, e4, e14, e15, List.length_map]
      refine ⟨fun hneg => ?_, fun hpos => ?_⟩
      · rw [wr (by omega)]
        have hd := (hpre.dec h m (by omega) (by omega) (Nat.le_refl _) (by omega)).2 hneg
        exact ⟨(h + 1, j), ⟨⟨⟨by dsimp only; omega, by dsimp only; omega, hj⟩, fun k q1 q2 => hpre.left.le ht q1 (by dsimp only at q2; omega) (by omega) hd, h2⟩, leafJ (by dsimp only; omega), rfl⟩, by dsimp only; omega⟩
      · have hd := (hpre.dec h m (by omega) (by omega) (Nat.le_refl _) (by omega)).1 hpos
        exact ⟨(i, h), ⟨⟨⟨hi, by dsimp only; omega, by dsimp only; omega⟩, h1, fun k q1 q2 => hpre.left.ge ht (by omega) q1 q2 hd⟩, rfl, rfl⟩, by dsimp only; omega⟩
    · have hg : ((i : Int) < j) = False := eq_false (by omega)
      obtain rfl : i = j := by omega
      simp only [vmA, sN1, reduceIte, sN2, sN3, reduceCtorEq, sN4, sI1, sI2, sI3, sN5, sN6, e0, l1, l2, l3, l4, l5, e2, e4, e14, e15, List.length_map, hg]
      refine WT_loop (fun (k : Nat) σ => (i ≤ k ∧ k ≤ m) ∧ σ.sl 0 = .hd 0 1 0 zs.length false ∧ (σ.en 0).live = true ∧ (σ.en 0).gen = 1 ∧ (σ.en 0).frz = false ∧ (σ.en 0).sz = 4 ∧ (σ.en 0).elems = (dn zs m k).map gT ∧ σ.sl 14 = .int .i64 i ∧ σ.sl 17 = .int .i64 k) (fun k => k) m ⟨⟨by omega, by omega⟩, by simp [vmI, e0], by simp [vmI, l1], by simp [vmI, l2], by simp [vmI, l3], by simp [vmI, l4], by simp [vmI, l5, dn_self], by simp [vmI, e14], by simp [vmI]⟩ ?_
      clear e0 l1 l2 l3 l4 l5 e2 e4 e14 e15
      rintro k σ ⟨⟨hk0, hk1⟩, e0, l1, l2, l3, l4, l5, e14, e17⟩
      have hxl : (dn zs m k).length = zs.length := dn_length _ _ _
      have hst := fun h : 0 < k => dn_step (l := zs) (i := m) h hk1 (by omega)
      obtain ⟨xs, hxs⟩ : ∃ xs, dn zs m k = xs := ⟨_, rfl⟩
      rw [hxs] at l5 hxl hst
      by_cases hlt2 : i < k
      · have hg2 : ((i : Int) < k) = True := eq_true (by omega)
        have hw4 : IntKind.i64.wrap ((k : Int) - 1) = ((k - 1 : Nat) : Int) := by rw [wr (by omega)]; omega
        have hi1 : (k < zs.length) = True := eq_true (by omega)
        have hi2 : (k - 1 < zs.length) = True := eq_true (by omega)
        have hn1 : (k - 1 = k) = False := eq_false (by omega)
        have hn2 : (k = k - 1) = False := eq_false (by omega)
        simp only [vmA, sN1, reduceIte, sN2, sN3, reduceCtorEq, sN4, sI1, sI2, sI3, sN5, sN6, e0, l1, l2, l3, l4, l5, e14, e17, List.length_map, hxl, hg2, hw4, Int.toNat_natCast, gT, gO, List.getElem?_set_self, List.getElem?_set_ne, hi1, hi2, hn1, hn2, List.length_set, not_false_eq_true]
        refine ⟨by omega, by omega, by omega, by omega, k - 1, ⟨⟨by omega, by omega⟩, ?_, rfl⟩, by omega⟩
        have := fun h1 h2 => @swap_fin xs k (k - 1) (by omega) h1 h2
        rw [hst (by omega)] at this
        exact this _ _
      · have hg2 : ((i : Int) < k) = False := eq_false (by omega)
        simp only [vmA, sN1, reduceIte, sN2, sN3, reduceCtorEq, sN4, sI1, sI2, sI3, sN5, sN6, e0, l1, l2, l3, l4, l5, e14, e17, List.length_map, hxl, hg2]
        obtain rfl : k = i := by omega
        (refine hQ _ ?_; simp only [vmA, sN1, reduceIte, sN2, sN3, reduceCtorEq, sN4, sI1, sI2, sI3, sN5, sN6, Tryz.f241, retG, resL, St.closeVs, St.closeV, leftV, ghostW, e0, l1, l2, l3, l4, l5, List.length_map, hxl])
        refine ⟨xs, by rw [List.take_of_length_le (by simp; omega)], ?_, ?_⟩
        · have := PIn.dn (a := a) (b := m + 1) (i := m) (l := zs) (by omega) hb (m - k) k (by omega) hi
          rw [hxs] at this
          exact this
        · rw [← hxs]; exact asc_dn hpre.left hi hk1 (by omega) h1 h2
  have hk1 : (((m - a : Nat) : Int) = 1) = False := eq_false (by omega)
  have hk2 : (((b - m : Nat) : Int) = 1) = False := eq_false (by omega)
  have hw3 : IntKind.i64.wrap ((a : Int) + b) = ((a + b : Nat) : Int) := by rw [wr (by omega)]; omega
  have hh := halfU (a + b) (by omega)
  obtain ⟨mid, hmid⟩ : ∃ mid, (a + b) / 2 = mid := ⟨_, rfl⟩
  have hw4 : IntKind.i64.wrap ((mid : Int) + m) = ((mid + m : Nat) : Int) := by rw [wr (by omega)]; omega
  have hw5 : IntKind.i64.wrap (((mid + m : Nat) : Int) - 1) = ((mid + m - 1 : Nat) : Int) := by rw [wr (by omega)]; omega
  simp only [vmA, sN1, reduceIte, sN2, sN3, reduceCtorEq, sN4, sI1, sI2, sI3, sN5, sN6, List.length_map, hw1, hw2, hk1, hk2, tt128, hw3, hh, hmid, hw4, hw5]
  refine WT_meet (P := fun σ => ∃ s0 r0 : Nat, ((mid < m ∧ s0 + b = mid + m ∧ r0 = mid) ∨ (m ≤ mid ∧ s0 = a ∧ r0 = m)) ∧ σ.sl 0 = .hd 0 1 0 zs.length false ∧ (σ.en 0).live = true ∧ (σ.en 0).gen = 1 ∧ (σ.en 0).frz = false ∧ (σ.en 0).sz = 4 ∧ (σ.en 0).elems = zs.map gT ∧ σ.sl 1 = .int .i64 a ∧ σ.sl 2 = .int .i64 m ∧ σ.sl 3 = .int .i64 b ∧ σ.sl 4 = .clo 182 [] ∧ σ.sl 18 = .int .i64 mid ∧ σ.sl 19 = .int .i64 ((mid + m : Nat) : Int) ∧ σ.sl 20 = .int .i64 s0 ∧ σ.sl 21 = .int .i64 r0 ∧ σ.sl 22 = .int .i64 ((mid + m - 1 : Nat) : Int)) ?_ ?_ ?_
  · intro hm
    refine ⟨mid + m - b, mid, by omega, ?_⟩
    simp [vmI]
    rw [wr (by omega)]; omega
  · intro hm
    refine ⟨a, m, by omega, ?_⟩
    simp [vmI]
  rintro σ ⟨s0, r0, hAB, e0, l1, l2, l3, l4, l5, e1, e2, e3, e4, e18, e19, e20, e21, e22⟩
  refine WT_loop (fun (q : Nat × Nat) σ => ((s0 ≤ q.1 ∧ q.1 ≤ q.2 ∧ q.2 ≤ r0) ∧ (∀ c, s0 ≤ c → c < q.1 → lt zs[c]! zs[mid + m - 1 - c]!) ∧ ∀ c, q.2 ≤ c → c < r0 → lt zs[mid + m - 1 - c]! zs[c]!) ∧ σ.sl 0 = .hd 0 1 0 zs.length false ∧ (σ.en 0).live = true ∧ (σ.en 0).gen = 1 ∧ (σ.en 0).frz = false ∧ (σ.en 0).sz = 4 ∧ (σ.en 0).elems = zs.map gT ∧ σ.sl 1 = .int .i64 a ∧ σ.sl 2 = .int .i64 m ∧ σ.sl 3 = .int .i64 b ∧ σ.sl 4 = .clo 182 [] ∧ σ.sl 18 = .int .i64 mid ∧ σ.sl 19 = .int .i64 ((mid + m : Nat) : Int) ∧ σ.sl 20 = .int .i64 q.1 ∧ σ.sl 21 = .int .i64 q.2 ∧ σ.sl 22 = .int .i64 ((mid + m - 1 : Nat) : Int)) (fun q => q.2 - q.1) (s0, r0) ⟨⟨⟨Nat.le_refl _, by dsimp only; omega, Nat.le_refl _⟩, fun c h1 h2 => absurd h1 (by dsimp only at h2; omega), fun c h1 h2 => absurd h1 (by dsimp only; omega)⟩, e0, l1, l2, l3, l4, l5, e1, e2, e3, e4, e18, e19, e20, e21, e22⟩ ?_
  clear e0 l1 l2 l3 l4 l5 e1 e2 e3 e4 e18 e19 e20 e21 e22
  rintro ⟨st, r⟩ σ ⟨⟨⟨hst0, hstr, hr0⟩, h1, h2⟩, e0, l1, l2, l3, l4, l5, e1, e2, e3, e4, e18, e19, e20, e21, e22⟩
  dsimp only at hst0 hstr hr0 h1 h2 e20 e21
  by_cases hlt : st < r
  · have hg : ((st : Int) < r) = True := eq_true (by omega)
    have hw7 : IntKind.i64.wrap ((st : Int) + r) = ((st + r : Nat) : Int) := by rw [wr (by omega)]; omega
    have hh2 := halfU (st + r) (by omega)
    obtain ⟨c, hcd⟩ : ∃ c, (st + r) / 2 = c := ⟨_, rfl⟩
    have hw8 : IntKind.i64.wrap (((mid + m - 1 : Nat) : Int) - c) = ((mid + m - 1 - c : Nat) : Int) := by rw [wr (by omega)]; omega
    simp only [vmA, sN1, reduceIte, sN2, sN3, reduceCtorEq, sN4, sI1, sI2, sI3, sN5, sN6, e0, l1, l2, l3, l4, l5, e1, e2, e3, e4, e18, e19, e20, e21, e22, List.length_map, hg, hw7, hh2, hcd, hw8, Int.toNat_natCast, gT, gO, tt128]
    refine ⟨by omega, by omega, by omega, by omega, callD (hc zs[mid + m - 1 - c]! zs[c]! (memG (by omega)) (memG (by omega))) ?_⟩
    simp only [vmA, sN1, reduceIte, sN2, sN3, reduceCtorEq, sN4, sI1, sI2, sI3, sN5, sN6, e0, l1, l2, l3, l4, l5, e1, e2, e3, e4, e18, e19, e20, e21, e22, List.length_map]
    have hdec := hpre.dec c (mid + m - 1 - c) (by omega) (by omega) (by omega) (by omega)
    refine ⟨fun hneg => ?_, fun hpos => ?_⟩
    · rw [wr (by omega)]
      have hd := hdec.2 hneg
      refine ⟨(c + 1, r), ⟨⟨⟨by dsimp only; omega, by dsimp only; omega, hr0⟩, fun k q1 q2 => ?_, h2⟩, leafJ (by dsimp only; omega), rfl⟩, by dsimp only; omega⟩
      dsimp only at q2
      exact hpre.right.ge ht (by omega) (by omega : mid + m - 1 - c ≤ mid + m - 1 - k) (by omega) (hpre.left.le ht (by omega) (by omega : k ≤ c) (by omega) hd)
    · have hd := hdec.1 hpos
      refine ⟨(st, c), ⟨⟨⟨hst0, by dsimp only; omega, by dsimp only; omega⟩, h1, fun k q1 q2 => ?_⟩, rfl, rfl⟩, by dsimp only; omega⟩
      dsimp only at q1
      exact hpre.left.ge ht (by omega) (by omega : c ≤ k) (by omega) (hpre.right.le ht (by omega) (by omega : mid + m - 1 - k ≤ mid + m - 1 - c) (by omega) hd)
  · have hg : ((st : Int) < r) = False := eq_false (by omega)
    obtain rfl : st = r := by omega
    have hw7 : IntKind.i64.wrap (((mid + m : Nat) : Int) - st) = ((mid + m - st : Nat) : Int) := by rw [wr (by omega)]; omega
    obtain ⟨en, hen⟩ : ∃ en, mid + m - st = en := ⟨_, rfl⟩
    have hglue := sm_glue ht hpre (start := st) (mid := mid) (en := en) (by omega) (by omega) (by omega) (by omega) hb (by omega) (fun q1 q2 => by
      have := h1 (st - 1) (by omega) (by omega)
      rwa [show mid + m - 1 - (st - 1) = en by omega] at this) (fun q1 q2 => by
      have := h2 st (Nat.le_refl _) (by omega)
      rwa [show mid + m - 1 - st = en - 1 by omega] at this)
    have hrot : ¬ (st < m ∧ m < en) → rot zs st m en = zs := fun h => by
      by_cases h3 : st = m
      · subst h3; exact rot_triv1 _ _ _
      · obtain rfl : m = en := by omega
        exact rot_triv2 _ _ _
    have hrp : PIn a b zs (rot zs st m en) := by
      by_cases h : st < m ∧ m < en
      · have := PIn.rot (lo := a) (hi := b) (m := m) (m - st + (en - m)) (m - st) (en - m) zs (by omega) (by omega) (by omega) (by omega) (by omega) (by omega) hb
        rwa [show m - (m - st) = st by omega, show m + (en - m) = en by omega] at this
      · rw [hrot h]; exact .refl _ _ _
    have fT : ∀ {x y : Nat}, x < y → ((x : Int) < y) = True := fun h => eq_true (by omega)
    have fF : ∀ {x y : Nat}, ¬ x < y → ((x : Int) < y) = False := fun h => eq_false (by omega)
    obtain ⟨ys, hys⟩ : ∃ ys, rot zs st m en = ys := ⟨_, rfl⟩
    have h97 := fun q1 q2 => f245 zs st m en q1 q2 (by omega) hl
    rw [hys] at hglue hrot hrp h97
    have hyl := hrp.length
    obtain ⟨g1, g2, g3⟩ := hglue
    have hcy : ∀ x y, x ∈ ys → y ∈ ys → Fx 182 [gA x.2, gA y.2] (.int .i64 (cf x y)) := fun x y hx hy => hc x y (hrp.perm.mem_iff.1 hx) (hrp.perm.mem_iff.1 hy)
    have ih1 := fun q1 q2 => ih ys a st mid (by omega) q1 q2 (by omega) (by omega) hcy g1
    have a1 : ¬ (a < st ∧ st < mid) → Asc lt a mid ys := fun h => by
      by_cases q : a = st
      · subst q; exact g1.right
      · obtain rfl : st = mid := by omega
        exact g1.left
    have fin : ∀ r1, PIn a mid ys r1 → Asc lt a mid r1 → ((mid < en → en < b → FxR 241 [.own 4 (r1.map gT), .int .i64 mid, .int .i64 en, .int .i64 b, .clo 182 []] fun r l => r = .tup [] ∧ ∃ r2, l = .own 4 (r2.map gT) ∧ PIn a b zs r2 ∧ Asc lt a b r2) ∧ (¬ (mid < en ∧ en < b) → PIn a b zs r1 ∧ Asc lt a b r1)) := fun r1 p1 q1 => by
      have hrl := p1.length
      have g2' := g2.same (by omega) (by omega) fun p h1 h2 => p1.out p (.inr h1)
      have hz : PIn a b zs r1 := hrp.trans (p1.mono (Nat.le_refl _) (by omega))
      refine ⟨fun q3 q4 => (ih r1 mid en b (by omega) q3 q4 (by omega) (by omega) (fun x y hx hy => hcy x y (p1.perm.mem_iff.1 hx) (p1.perm.mem_iff.1 hy)) g2').mono ?_, fun h => ⟨hz, ?_⟩⟩
      · rintro r l ⟨e1, r2, e2, p2, q2⟩
        exact ⟨e1, r2, e2, hz.trans (p2.mono (by omega) (Nat.le_refl _)), asc_halves (by omega) (by omega) g3 p1 q1 p2 q2⟩
      · refine asc_halves (by omega) (by omega) g3 p1 q1 (PIn.refl mid b r1) ?_
        by_cases q : mid = en
        · subst q; exact g2'.right
        · obtain rfl : en = b := by omega
          exact g2'.left
    clear g1 g2 g3 h1 h2 ih hc hcy hpre
    have t1 : (st < m ∧ m < en) ∨ (st < m ∧ ¬ m < en) ∨ ¬ st < m := by omega
    have t2 : (a < st ∧ st < mid) ∨ (a < st ∧ ¬ st < mid) ∨ ¬ a < st := by omega
    have t3 : (mid < en ∧ en < b) ∨ (mid < en ∧ ¬ en < b) ∨ ¬ mid < en := by omega
    rcases t1 with t1 | t1 | t1
    · have zf1 := fT t1.1
      have zf2 := fT t1.2
      simp only [vmA, sN1, reduceIte, sN2, sN3, reduceCtorEq, sN4, sI1, sI2, sI3, sN5, sN6, e0, l1, l2, l3, l4, l5, e1, e2, e3, e4, e18, e19, e20, e21, e22, List.length_map, hg, hw7, hen, hyl, zf1, zf2]
      refine callR (h97 t1.1 t1.2) ?_
      rintro _ _ ⟨rfl, rfl⟩
      rcases t2 with t2 | t2 | t2
      · have zf3 := fT t2.1
        have zf4 := fT t2.2
        simp only [vmA, sN1, reduceIte, sN2, sN3, reduceCtorEq, sN4, sI1, sI2, sI3, sN5, sN6, e0, l1, l2, l3, l4, l5, e1, e2, e3, e4, e18, e19, e20, e21, e22, List.length_map, hg, hw7, hen, hyl, zf1, zf2, zf3, zf4]
        refine callR (ih1 t2.1 t2.2) ?_
        rintro _ _ ⟨rfl, r1, rfl, p1, q1⟩
        have hr := fin r1 p1 q1
        have hrl := p1.length
        rcases t3 with t3 | t3 | t3
        · have zf5 := fT t3.1
          have zf6 := fT t3.2
          simp only [vmA, sN1, reduceIte, sN2, sN3, reduceCtorEq, sN4, sI1, sI2, sI3, sN5, sN6, e0, l1, l2, l3, l4, l5, e1, e2, e3, e4, e18, e19, e20, e21, e22, List.length_map, hg, hw7, hen, hyl, zf1, zf2, zf3, zf4, zf5, zf6, hrl]
          refine callR (hr.1 t3.1 t3.2) ?_
          rintro _ _ ⟨rfl, r2, rfl, p2, q2⟩
          have hrl2 := p2.length
          simp only [vmA, sN1, reduceIte, sN2, sN3, reduceCtorEq, sN4, sI1, sI2, sI3, sN5, sN6, e0, l1, l2, l3, l4, l5, e1, e2, e3, e4, e18, e19, e20, e21, e22, List.length_map, hg, hw7, hen, hyl, hrl2]
          (refine hN _ ?_; simp only [vmA, sN1, reduceIte, sN2, sN3, reduceCtorEq, sN4, sI1, sI2, sI3, sN5, sN6, Tryz.f241, retG, resL, St.closeVs, St.closeV, leftV, ghostW, e0, l1, l2, l3, l4, l5, e1, e2, e3, e4, e18, e19, e20, e21, e22, List.length_map, hg, hw7, hen, hyl, hrl2])
          exact ⟨r2, by rw [List.take_of_length_le (by simp; omega)], p2, q2⟩
        · have zf5 := fT t3.1
          have zf6 := fF t3.2
          simp only [vmA, sN1, reduceIte, sN2, sN3, reduceCtorEq, sN4, sI1, sI2, sI3, sN5, sN6, e0, l1, l2, l3, l4, l5, e1, e2, e3, e4, e18, e19, e20, e21, e22, List.length_map, hg, hw7, hen, hyl, zf1, zf2, zf3, zf4, zf5, zf6, hrl]
          (refine hN _ ?_; simp only [vmA, sN1, reduceIte, sN2, sN3, reduceCtorEq, sN4, sI1, sI2, sI3, sN5, sN6, Tryz.f241, retG, resL, St.closeVs, St.closeV, leftV, ghostW, e0, l1, l2, l3, l4, l5, e1, e2, e3, e4, e18, e19, e20, e21, e22, List.length_map, hg, hw7, hen, hyl, hrl])
          exact ⟨r1, by rw [List.take_of_length_le (by simp; omega)], hr.2 (by omega)⟩
        · have zf5 := fF t3
          simp only [vmA, sN1, reduceIte, sN2, sN3, reduceCtorEq, sN4, sI1, sI2, sI3, sN5, sN6, e0, l1, l2, l3, l4, l5, e1, e2, e3, e4, e18, e19, e20, e21, e22, List.length_map, hg, hw7, hen, hyl, zf1, zf2, zf3, zf4, zf5, hrl]
          (refine hN _ ?_; simp only [vmA, sN1, reduceIte, sN2, sN3, reduceCtorEq, sN4, sI1, sI2, sI3, sN5, sN6, Tryz.f241, retG, resL, St.closeVs, St.closeV, leftV, ghostW, e0, l1, l2, l3, l4, l5, e1, e2, e3, e4, e18, e19, e20, e21, e22, List.length_map, hg, hw7, hen, hyl, hrl])
          exact ⟨r1, by rw [List.take_of_length_le (by simp; omega)], hr.2 (by omega)⟩
      · have zf3 := fT t2.1
        have zf4 := fF t2.2
        have hr := fin ys (.refl _ _ _) (a1 (by omega))
        rcases t3 with t3 | t3 | t3
        · have zf5 := fT t3.1
          have zf6 := fT t3.2
          simp only [vmA, sN1, reduceIte, sN2, sN3, reduceCtorEq, sN4, sI1, sI2, sI3, sN5, sN6, e0, l1, l2, l3, l4, l5, e1, e2, e3, e4, e18, e19, e20, e21, e22, List.length_map, hg, hw7, hen, hyl, zf1, zf2, zf3, zf4, zf5, zf6]
          refine callR (hr.1 t3.1 t3.2) ?_
          rintro _ _ ⟨rfl, r2, rfl, p2, q2⟩
          have hrl2 := p2.length
          simp only [vmA, sN1, reduceIte, sN2, sN3, reduceCtorEq, sN4, sI1, sI2, sI3, sN5, sN6, e0, l1, l2, l3, l4, l5, e1, e2, e3, e4, e18, e19, e20, e21, e22, List.length_map, hg, hw7, hen, hyl, hrl2]
          (refine hN _ ?_; simp only [vmA, sN1, reduceIte, sN2, sN3, reduceCtorEq, sN4, sI1, sI2, sI3, sN5, sN6, Tryz.f241, retG, resL, St.closeVs, St.closeV, leftV, ghostW, e0, l1, l2, l3, l4, l5, e1, e2, e3, e4, e18, e19, e20, e21, e22, List.length_map, hg, hw7, hen, hyl, hrl2])
          exact ⟨r2, by rw [List.take_of_length_le (by simp; omega)], p2, q2⟩
        · have zf5 := fT t3.1
          have zf6 := fF t3.2
          simp only [vmA, sN1, reduceIte, sN2, sN3, reduceCtorEq, sN4, sI1, sI2, sI3, sN5, sN6, e0, l1, l2, l3, l4, l5, e1, e2, e3, e4, e18, e19, e20, e21, e22, List.length_map, hg, hw7, hen, hyl, zf1, zf2, zf3, zf4, zf5, zf6]
          (refine hN _ ?_; simp only [vmA, sN1, reduceIte, sN2, sN3, reduceCtorEq, sN4, sI1, sI2, sI3, sN5, sN6, Tryz.f241, retG, resL, St.closeVs, St.closeV, leftV, ghostW, e0, l1, l2, l3, l4, l5, e1, e2, e3, e4, e18, e19, e20, e21, e22, List.length_map, hg, hw7, hen, hyl])
          exact ⟨ys, by rw [List.take_of_length_le (by simp; omega)], hr.2 (by omega)⟩
        · have zf5 := fF t3
          simp only [vmA, sN1, reduceIte, sN2, sN3, reduceCtorEq, sN4, sI1, sI2, sI3, sN5, sN6, e0, l1, l2, l3, l4, l5, e1, e2, e3, e4, e18, e19, e20, e21, e22, List.length_map, hg, hw7, hen, hyl, zf1, zf2, zf3, zf4, zf5]
          (refine hN _ ?_; simp only [vmA, sN1, reduceIte, sN2, sN3, reduceCtorEq, sN4, sI1, sI2, sI3, sN5, sN6, Tryz.f241, retG, resL, St.closeVs, St.closeV, leftV, ghostW, e0, l1, l2, l3, l4, l5, e1, e2, e3, e4, e18, e19, e20, e21, e22, List.length_map, hg, hw7, hen, hyl])
          exact ⟨ys, by rw [List.take_of_length_le (by simp; omega)], hr.2 (by omega)⟩
      · have zf3 := fF t2
        have hr := fin ys (.refl _ _ _) (a1 (by omega))
        rcases t3 with t3 | t3 | t3
        · have zf5 := fT t3.1
          have zf6 := fT t3.2
          simp only [vmA, sN1, reduceIte, sN2, sN3, reduceCtorEq, sN4, sI1, sI2, sI3, sN5, sN6, e0, l1, l2, l3, l4, l5, e1, e2, e3, e4, e18, e19, e20, e21, e22, List.length_map, hg, hw7, hen, hyl, zf1, zf2, zf3, zf5, zf6]
          refine callR (hr.1 t3.1 t3.2) ?_
          rintro _ _ ⟨rfl, r2, rfl, p2, q2⟩
          have hrl2 := p2.length
          simp only [vmA, sN1, reduceIte, sN2, sN3, reduceCtorEq, sN4, sI1, sI2, sI3, sN5, sN6, e0, l1, l2, l3, l4, l5, e1, e2, e3, e4, e18, e19, e20, e21, e22, List.length_map, hg, hw7, hen, hyl, hrl2]
          (refine hN _ ?_; simp only [vmA, sN1, reduceIte, sN2, sN3, reduceCtorEq, sN4, sI1, sI2, sI3, sN5, sN6, Tryz.f241, retG, resL, St.closeVs, St.closeV, leftV, ghostW, e0, l1, l2, l3, l4, l5, e1, e2, e3, e4, e18, e19, e20, e21, e22, List.length_map, hg, hw7, hen, hyl, hrl2])
          exact ⟨r2, by rw [List.take_of_length_le (by simp; omega)], p2, q2⟩
        · have zf5 := fT t3.1
          have zf6 := fF t3.2
          simp only [vmA, sN1, reduceIte, sN2, sN3, reduceCtorEq, sN4, sI1, sI2, sI3, sN5, sN6, e0, l1, l2, l3, l4, l5, e1, e2, e3, e4, e18, e19, e20, e21, e22, List.length_map, hg, hw7, hen, hyl, zf1, zf2, zf3, zf5, zf6]
          (refine hN _ ?_; simp only [vmA, sN1, reduceIte, sN2, sN3, reduceCtorEq, sN4, sI1, sI2, sI3, sN5, sN6, Tryz.f241, retG, resL, St.closeVs, St.closeV, leftV, ghostW, e0, l1, l2, l3, l4, l5, e1, e2, e3, e4, e18, e19, e20, e21, e22, List.length_map, hg, hw7, hen, hyl])
          exact ⟨ys, by rw [List.take_of_length_le (by simp; omega)], hr.2 (by omega)⟩
        · have zf5 := fF t3
          simp only [vmA, sN1, reduceIte, sN2, sN3, reduceCtorEq, sN4, sI1, sI2, sI3, sN5, sN6, e0, l1, l2, l3, l4, l5, e1, e2, e3, e4, e18, e19, e20, e21, e22, List.length_map, hg, hw7, hen, hyl, zf1, zf2, zf3, zf5]
          (refine hN _ ?_; simp only [vmA, sN1, reduceIte, sN2, sN3, reduceCtorEq, sN4, sI1, sI2, sI3, sN5, sN6, Tryz.f241, retG, resL, St.closeVs, St.closeV, leftV, ghostW, e0, l1, l2, l3, l4, l5, e1, e2, e3, e4, e18, e19, e20, e21, e22, List.length_map, hg, hw7, hen, hyl])
          exact ⟨ys, by rw [List.take_of_length_le (by simp; omega)], hr.2 (by omega)⟩
    · have zf1 := fT t1.1
      have zf2 := fF t1.2
      have l5 : (σ.en 0).elems = ys.map gT := by rw [hrot (by omega)]; exact l5
      rcases t2 with t2 | t2 | t2
      · have zf3 := fT t2.1
        have zf4 := fT t2.2
        simp only [vmA, sN1, reduceIte, sN2, sN3, reduceCtorEq, sN4, sI1, sI2, sI3, sN5, sN6, e0, l1, l2, l3, l4, l5, e1, e2, e3, e4, e18, e19, e20, e21, e22, List.length_map, hg, hw7, hen, hyl, zf1, zf2, zf3, zf4]
        refine callR (ih1 t2.1 t2.2) ?_
        rintro _ _ ⟨rfl, r1, rfl, p1, q1⟩
        have hr := fin r1 p1 q1
        have hrl := p1.length
        rcases t3 with t3 | t3 | t3
        · have zf5 := fT t3.1
          have zf6 := fT t3.2
          simp only [vmA, sN1, reduceIte, sN2, sN3, reduceCtorEq, sN4, sI1, sI2, sI3, sN5, sN6, e0, l1, l2, l3, l4, l5, e1, e2, e3, e4, e18, e19, e20, e21, e22, List.length_map, hg, hw7, hen, hyl, zf1, zf2, zf3, zf4, zf5, zf6, hrl]
          refine callR (hr.1 t3.1 t3.2) ?_
          rintro _ _ ⟨rfl, r2, rfl, p2, q2⟩
          have hrl2 := p2.length
          simp only [vmA, sN1, reduceIte, sN2, sN3, reduceCtorEq, sN4, sI1, sI2, sI3, sN5, sN6, e0, l1, l2, l3, l4, l5, e1, e2, e3, e4, e18, e19, e20, e21, e22, List.length_map, hg, hw7, hen, hyl, hrl2]
          (refine hN _ ?_; simp only [vmA, sN1, reduceIte, sN2, sN3, reduceCtorEq, sN4, sI1, sI2, sI3, sN5, sN6, Tryz.f241, retG, resL, St.closeVs, St.closeV, leftV, ghostW, e0, l1, l2, l3, l4, l5, e1, e2, e3, e4, e18, e19, e20, e21, e22, List.length_map, hg, hw7, hen, hyl, hrl2])
          exact ⟨r2, by rw [List.take_of_length_le (by simp; omega)], p2, q2⟩
        · have zf5 := fT t3.1
          have zf6 := fF t3.2
          simp only [vmA, sN1, reduceIte, sN2, sN3, reduceCtorEq, sN4, sI1, sI2, sI3, sN5, sN6, e0, l1, l2, l3, l4, l5, e1, e2, e3, e4, e18, e19, e20, e21, e22, List.length_map, hg, hw7, hen, hyl, zf1, zf2, zf3, zf4, zf5, zf6, hrl]
          (refine hN _ ?_; simp only [vmA, sN1, reduceIte, sN2, sN3, reduceCtorEq, sN4, sI1, sI2, sI3, sN5, sN6, Tryz.f241, retG, resL, St.closeVs, St.closeV, leftV, ghostW, e0, l1, l2, l3, l4, l5, e1, e2, e3, e4, e18, e19, e20, e21, e22, List.length_map, hg, hw7, hen, hyl, hrl])
          exact ⟨r1, by rw [List.take_of_length_le (by simp; omega)], hr.2 (by omega)⟩
        · have zf5 := fF t3
          simp only [vmA, sN1, reduceIte, sN2, sN3, reduceCtorEq, sN4, sI1, sI2, sI3, sN5, sN6, e0, l1, l2, l3, l4, l5, e1, e2, e3, e4, e18, e19, e20, e21, e22, List.length_map, hg, hw7, hen, hyl, zf1, zf2, zf3, zf4, zf5, hrl]
          (refine hN _ ?_; simp only [vmA, sN1, reduceIte, sN2, sN3, reduceCtorEq, sN4, sI1, sI2, sI3, sN5, sN6, Tryz.f241, retG, resL, St.closeVs, St.closeV, leftV, ghostW, e0, l1, l2, l3, l4, l5, e1, e2, e3, e4, e18, e19, e20, e21, e22, List.length_map, hg, hw7, hen, hyl, hrl])
          exact ⟨r1, by rw [List.take_of_length_le (by simp; omega)], hr.2 (by omega)⟩
      · have zf3 := fT t2.1
        have zf4 := fF t2.2
        have hr := fin ys (.refl _ _ _) (a1 (by omega))
        rcases t3 with t3 | t3 | t3
        · have zf5 := fT t3.1
          have zf6 := fT t3.2
          simp only [vmA, sN1, reduceIte, sN2, sN3, reduceCtorEq, sN4, sI1, sI2, sI3, sN5, sN6, e0, l1, l2, l3, l4, l5, e1, e2, e3, e4, e18, e19, e20, e21, e22, List.length_map, hg, hw7, hen, hyl, zf1, zf2, zf3, zf4, zf5, zf6]
          refine callR (hr.1 t3.1 t3.2) ?_
          rintro _ _ ⟨rfl, r2, rfl, p2, q2⟩
          have hrl2 := p2.length
          simp only [vmA, sN1, reduceIte, sN2, sN3, reduceCtorEq, sN4, sI1, sI2, sI3, sN5, sN6, e0, l1, l2, l3, l4, l5, e1, e2, e3, e4, e18, e19, e20, e21, e22, List.length_map, hg, hw7, hen, hyl, hrl2]
          (refine hN _ ?_; simp only [vmA, sN1, reduceIte, sN2, sN3, reduceCtorEq, sN4, sI1, sI2, sI3, sN5, sN6, Tryz.f241, retG, resL, St.closeVs, St.closeV, leftV, ghostW, e0, l1, l2, l3, l4, l5, e1, e2, e3, e4, e18, e19, e20, e21, e22, List.length_map, hg, hw7, hen, hyl, hrl2])
          exact ⟨r2, by rw [List.take_of_length_le (by simp; omega)], p2, q2⟩
        · have zf5 := fT t3.1
          have zf6 := fF t3.2
          simp only [vmA, sN1, reduceIte, sN2, sN3, reduceCtorEq, sN4, sI1, sI2, sI3, sN5, sN6, e0, l1, l2, l3, l4, l5, e1, e2, e3, e4, e18, e19, e20, e21, e22, List.length_map, hg, hw7, hen, hyl, zf1, zf2, zf3, zf4, zf5, zf6]
          (refine hN _ ?_; simp only [vmA, sN1, reduceIte, sN2, sN3, reduceCtorEq, sN4, sI1, sI2, sI3, sN5, sN6, Tryz.f241, retG, resL, St.closeVs, St.closeV, leftV, ghostW, e0, l1, l2, l3, l4, l5, e1, e2, e3, e4, e18, e19, e20, e21, e22, List.length_map, hg, hw7, hen, hyl])
          exact ⟨ys, by rw [List.take_of_length_le (by simp; omega)], hr.2 (by omega)⟩
        · have zf5 := fF t3
          simp only [vmA, sN1, reduceIte, sN2, sN3, reduceCtorEq, sN4, sI1, sI2, sI3, sN5, sN6, e0, l1, l2, l3, l4, l5, e1, e2, e3, e4, e18, e19, e20, e21, e22, List.length_map, hg, hw7, hen, hyl, zf1, zf2, zf3, zf4, zf5]
          (refine hN _ ?_; simp only [vmA, sN1, reduceIte, sN2, sN3, reduceCtorEq, sN4, sI1, sI2, sI3, sN5, sN6, Tryz.f241, retG, resL, St.closeVs, St.closeV, leftV, ghostW, e0, l1, l2, l3, l4, l5, e1, e2, e3, e4, e18, e19, e20, e21, e22, List.length_map, hg, hw7, hen, hyl])
          exact ⟨ys, by rw [List.take_of_length_le (by simp; omega)], hr.2 (by omega)⟩
      · have zf3 := fF t2
        have hr := fin ys (.refl _ _ _) (a1 (by omega))
        rcases t3 with t3 | t3 | t3
        · have zf5 := fT t3.1
          have zf6 := fT t3.2
          simp only [vmA, sN1, reduceIte, sN2, sN3, reduceCtorEq, sN4, sI1, sI2, sI3, sN5, sN6, e0, l1, l2, l3, l4, l5, e1, e2, e3, e4, e18, e19, e20, e21, e22, List.length_map, hg, hw7, hen, hyl, zf1, zf2, zf3, zf5, zf6]
          refine callR (hr.1 t3.1 t3.2) ?_
          rintro _ _ ⟨rfl, r2, rfl, p2, q2⟩
          have hrl2 := p2.length
          simp only [vmA, sN1, reduceIte, sN2, sN3, reduceCtorEq, sN4, sI1, sI2, sI3, sN5, sN6, e0, l1, l2, l3, l4, l5, e1, e2, e3, e4, e18, e19, e20, e21, e22, List.length_map, hg, hw7, hen, hyl, hrl2]
          (refine hN _ ?_; simp only [vmA, sN1, reduceIte, sN2, sN3, reduceCtorEq, sN4, sI1, sI2, sI3, sN5, sN6, Tryz.f241, retG, resL, St.closeVs, St.closeV, leftV, ghostW, e0, l1, l2, l3, l4, l5, e1, e2, e3, e4, e18, e19, e20, e21, e22, List.length_map, hg, hw7, hen, hyl, hrl2])
          exact ⟨r2, by rw [List.take_of_length_le (by simp; omega)], p2, q2⟩
        · have zf5 := fT t3.1
          have zf6 := fF t3.2
          simp only [vmA, sN1, reduceIte, sN2, sN3, reduceCtorEq, sN4, sI1, sI2, sI3, sN5, sN6, e0, l1, l2, l3, l4, l5, e1, e2, e3, e4, e18, e19, e20, e21, e22, List.length_map, hg, hw7, hen, hyl, zf1, zf2, zf3, zf5, zf6]
          (refine hN _ ?_; simp only [vmA, sN1, reduceIte, sN2, sN3, reduceCtorEq, sN4, sI1, sI2, sI3, sN5, sN6, Tryz.f241, retG, resL, St.closeVs, St.closeV, leftV, ghostW, e0, l1, l2, l3, l4, l5, e1, e2, e3, e4, e18, e19, e20, e21, e22, List.length_map, hg, hw7, hen, hyl])
          exact ⟨ys, by rw [List.take_of_length_le (by simp; omega)], hr.2 (by omega)⟩
        · have zf5 := fF t3
          simp only [vmA, sN1, reduceIte, sN2, sN3, reduceCtorEq, sN4, sI1, sI2, sI3, sN5, sN6, e0, l1, l2, l3, l4, l5, e1, e2, e3, e4, e18, e19, e20, e21, e22, List.length_map, hg, hw7, hen, hyl, zf1, zf2, zf3, zf5]
          (refine hN _ ?_; simp only [vmA, sN1, reduceIte, sN2, sN3, reduceCtorEq, sN4, sI1, sI2, sI3, sN5, sN6, Tryz.f241, retG, resL, St.closeVs, St.closeV, leftV, ghostW, e0, l1, l2, l3, l4, l5, e1, e2, e3, e4, e18, e19, e20, e21, e22, List.length_map, hg, hw7, hen, hyl])
          exact ⟨ys, by rw [List.take_of_length_le (by simp; omega)], hr.2 (by omega)⟩
    · have zf1 := fF t1
      have l5 : (σ.en 0).elems = ys.map gT := by rw [hrot (by omega)]; exact l5
      rcases t2 with t2 | t2 | t2
      · have zf3 := fT t2.1
        have zf4 := fT t2.2
        simp only [vmA, sN1, reduceIte, sN2, sN3, reduceCtorEq, sN4, sI1, sI2, sI3, sN5, sN6, e0, l1, l2, l3, l4, l5, e1, e2, e3, e4, e18, e19, e20, e21, e22, List.length_map, hg, hw7, hen, hyl, zf1, zf3, zf4]
        refine callR (ih1 t2.1 t2.2) ?_
        rintro _ _ ⟨rfl, r1, rfl, p1, q1⟩
        have hr := fin r1 p1 q1
        have hrl := p1.length
        rcases t3 with t3 | t3 | t3
        · have zf5 := fT t3.1
          have zf6 := fT t3.2
          simp only [vmA, sN1, reduceIte, sN2, sN3, reduceCtorEq, sN4, sI1, sI2, sI3, sN5, sN6, e0, l1, l2, l3, l4, l5, e1, e2, e3, e4, e18, e19, e20, e21, e22, List.length_map, hg, hw7, hen, hyl, zf1, zf3, zf4, zf5, zf6, hrl]
          refine callR (hr.1 t3.1 t3.2) ?_
          rintro _ _ ⟨rfl, r2, rfl, p2, q2⟩
          have hrl2 := p2.length
          simp only [vmA, sN1, reduceIte, sN2, sN3, reduceCtorEq, sN4, sI1, sI2, sI3, sN5, sN6, e0, l1, l2, l3, l4, l5, e1, e2, e3, e4, e18, e19, e20, e21, e22, List.length_map, hg, hw7, hen, hyl, hrl2]
          (refine hN _ ?_; simp only [vmA, sN1, reduceIte, sN2, sN3, reduceCtorEq, sN4, sI1, sI2, sI3, sN5, sN6, Tryz.f241, retG, resL, St.closeVs, St.closeV, leftV, ghostW, e0, l1, l2, l3, l4, l5, e1, e2, e3, e4, e18, e19, e20, e21, e22, List.length_map, hg, hw7, hen, hyl, hrl2])
          exact ⟨r2, by rw [List.take_of_length_le (by simp; omega)], p2, q2⟩
        · have zf5 := fT t3.1
          have zf6 := fF t3.2
          simp only [vmA, sN1, reduceIte, sN2, sN3, reduceCtorEq, sN4, sI1, sI2, sI3, sN5, sN6, e0, l1, l2, l3, l4, l5, e1, e2, e3, e4, e18, e19, e20, e21, e22, List.length_map, hg, hw7, hen, hyl, zf1, zf3, zf4, zf5, zf6, hrl]
          (refine hN _ ?_; simp only [vmA, sN1, reduceIte, sN2, sN3, reduceCtorEq, sN4, sI1, sI2, sI3, sN5, sN6, Tryz.f241, retG, resL, St.closeVs, St.closeV, leftV, ghostW, e0, l1, l2, l3, l4, l5, e1, e2, e3, e4, e18, e19, e20, e21, e22, List.length_map, hg, hw7, hen, hyl, hrl])
          exact ⟨r1, by rw [List.take_of_length_le (by simp; omega)], hr.2 (by omega)⟩
        · have zf5 := fF t3
          simp only [vmA, sN1, reduceIte, sN2, sN3, reduceCtorEq, sN4, sI1, sI2, sI3, sN5, sN6, e0, l1, l2, l3, l4, l5, e1, e2, e3, e4, e18, e19, e20, e21, e22, List.length_map, hg, hw7, hen, hyl, zf1, zf3, zf4, zf5, hrl]
          (refine hN _ ?_; simp only [vmA, sN1, reduceIte, sN2, sN3, reduceCtorEq, sN4, sI1, sI2, sI3, sN5, sN6, Tryz.f241, retG, resL, St.closeVs, St.closeV, leftV, ghostW, e0, l1, l2, l3, l4, l5, e1, e2, e3, e4, e18, e19, e20, e21, e22, List.length_map, hg, hw7, hen, hyl, hrl])
          exact ⟨r1, by rw [List.take_of_length_le (by simp; omega)], hr.2 (by omega)⟩
      · have zf3 := fT t2.1
        have zf4 := fF t2.2
        have hr := fin ys (.refl _ _ _) (a1 (by omega))
        rcases t3 with t3 | t3 | t3
        · have zf5 := fT t3.1
          have zf6 := fT t3.2
          simp only [vmA, sN1, reduceIte, sN2, sN3, reduceCtorEq, sN4, sI1, sI2, sI3, sN5, sN6, e0, l1, l2, l3, l4, l5, e1, e2, e3, e4, e18, e19, e20, e21, e22, List.length_map, hg, hw7, hen, hyl, zf1, zf3, zf4, zf5, zf6]
          refine callR (hr.1 t3.1 t3.2) ?_
          rintro _ _ ⟨rfl, r2, rfl, p2, q2⟩
          have hrl2 := p2.length
          simp only [vmA, sN1, reduceIte, sN2, sN3, reduceCtorEq, sN4, sI1, sI2, sI3, sN5, sN6, e0, l1, l2, l3, l4, l5, e1, e2, e3, e4, e18, e19, e20, e21, e22, List.length_map, hg, hw7, hen, hyl, hrl2]
          (refine hN _ ?_; simp only [vmA, sN1, reduceIte, sN2, sN3, reduceCtorEq, sN4, sI1, sI2, sI3, sN5, sN6, Tryz.f241, retG, resL, St.closeVs, St.closeV, leftV, ghostW, e0, l1, l2, l3, l4, l5, e1, e2, e3, e4, e18, e19, e20, e21, e22, List.length_map, hg, hw7, hen, hyl, hrl2])
          exact ⟨r2, by rw [List.take_of_length_le (by simp; omega)], p2, q2⟩
        · have zf5 := fT t3.1
          have zf6 := fF t3.2
          simp only [vmA, sN1, reduceIte, sN2, sN3, reduceCtorEq, sN4, sI1, sI2, sI3, sN5, sN6, e0, l1, l2, l3, l4, l5, e1, e2, e3, e4, e18, e19, e20, e21, e22, List.length_map, hg, hw7, hen, hyl, zf1, zf3, zf4, zf5, zf6]
          (refine hN _ ?_; simp only [vmA, sN1, reduceIte, sN2, sN3, reduceCtorEq, sN4, sI1, sI2, sI3, sN5, sN6, Tryz.f241, retG, resL, St.closeVs, St.closeV, leftV, ghostW, e0, l1, l2, l3, l4, l5, e1, e2, e3, e4, e18, e19, e20, e21, e22, List.length_map, hg, hw7, hen, hyl])
          exact ⟨ys, by rw [List.take_of_length_le (by simp; omega)], hr.2 (by omega)⟩
        · have zf5 := fF t3
          simp only [vmA, sN1, reduceIte, sN2, sN3, reduceCtorEq, sN4, sI1, sI2, sI3, sN5, sN6, e0, l1, l2, l3, l4, l5, e1, e2, e3, e4, e18, e19, e20, e21, e22, List.length_map, hg, hw7, hen, hyl, zf1, zf3, zf4, zf5]
          (refine hN _ ?_; simp only [vmA, sN1, reduceIte, sN2, sN3, reduceCtorEq, sN4, sI1, sI2, sI3, sN5, sN6, Tryz.f241, retG, resL, St.closeVs, St.closeV, leftV, ghostW, e0, l1, l2, l3, l4, l5, e1, e2, e3, e4, e18, e19, e20, e21, e22, List.length_map, hg, hw7, hen, hyl])
          exact ⟨ys, by rw [List.take_of_length_le (by simp; omega)], hr.2 (by omega)⟩
      · have zf3 := fF t2
        have hr := fin ys (.refl _ _ _) (a1 (by omega))
        rcases t3 with t3 | t3 | t3
        · have zf5 := fT t3.1
          have zf6 := fT t3.2
          simp only [vmA, sN1, reduceIte, sN2, sN3, reduceCtorEq, sN4, sI1, sI2, sI3, sN5, sN6, e0, l1, l2, l3, l4, l5, e1, e2, e3, e4, e18, e19, e20, e21, e22, List.length_map, hg, hw7, hen, hyl, zf1, zf3, zf5, zf6]
          refine callR (hr.1 t3.1 t3.2) ?_
          rintro _ _ ⟨rfl, r2, rfl, p2, q2⟩
          have hrl2 := p2.length
          simp only [vmA, sN1, reduceIte, sN2, sN3, reduceCtorEq, sN4, sI1, sI2, sI3, sN5, sN6, e0, l1, l2, l3, l4, l5, e1, e2, e3, e4, e18, e19, e20, e21, e22, List.length_map, hg, hw7, hen, hyl, hrl2]
          (refine hN _ ?_; simp only [vmA, sN1, reduceIte, sN2, sN3, reduceCtorEq, sN4, sI1, sI2, sI3, sN5, sN6, Tryz.f241, retG, resL, St.closeVs, St.closeV, leftV, ghostW, e0, l1, l2, l3, l4, l5, e1, e2, e3, e4, e18, e19, e20, e21, e22, List.length_map, hg, hw7, hen, hyl, hrl2])
          exact ⟨r2, by rw [List.take_of_length_le (by simp; omega)], p2, q2⟩
        · have zf5 := fT t3.1
          have zf6 := fF t3.2
          simp only [vmA, sN1, reduceIte, sN2, sN3, reduceCtorEq, sN4, sI1, sI2, sI3, sN5, sN6, e0, l1, l2, l3, l4, l5, e1, e2, e3, e4, e18, e19, e20, e21, e22, List.length_map, hg, hw7, hen, hyl, zf1, zf3, zf5, zf6]
          (refine hN _ ?_; simp only [vmA, sN1, reduceIte, sN2, sN3, reduceCtorEq, sN4, sI1, sI2, sI3, sN5, sN6, Tryz.f241, retG, resL, St.closeVs, St.closeV, leftV, ghostW, e0, l1, l2, l3, l4, l5, e1, e2, e3, e4, e18, e19, e20, e21, e22, List.length_map, hg, hw7, hen, hyl])
          exact ⟨ys, by rw [List.take_of_length_le (by simp; omega)], hr.2 (by omega)⟩
        · have zf5 := fF t3
          simp only [vmA, sN1, reduceIte, sN2, sN3, reduceCtorEq, sN4, sI1, sI2, sI3, sN5, sN6, e0, l1, l2, l3, l4, l5, e1, e2, e3, e4, e18, e19, e20, e21, e22, List.length_map, hg, hw7, hen, hyl, zf1, zf3, zf5]
          (refine hN _ ?_; simp only [vmA, sN1, reduceIte, sN2, sN3, reduceCtorEq, sN4, sI1, sI2, sI3, sN5, sN6, Tryz.f241, retG, resL, St.closeVs, St.closeV, leftV, ghostW, e0, l1, l2, l3, l4, l5, e1, e2, e3, e4, e18, e19, e20, e21, e22, List.length_map, hg, hw7, hen, hyl])
          exact ⟨ys, by rw [List.take_of_length_le (by simp; omega)], hr.2 (by omega)⟩
