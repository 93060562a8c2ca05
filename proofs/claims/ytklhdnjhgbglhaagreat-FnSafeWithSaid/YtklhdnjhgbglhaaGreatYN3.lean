/- WALK, or plain laws for it: theorem f<k> says what function k returns. Conditions: none but those ahead of each theorem. -/
import Derived.Test.YtklhdnjhgbglhaaGreatYN2
import Derived.Test.YtklhdnjhgbglhaaGreatYS0
set_option linter.unusedVariables false
set_option linter.unusedSimpArgs false
open Nat renaming reduceEqDiff → sN1, reduceAdd → sN2, reduceBEq → sN3, reduceLT → sN4, reduceMul → sN5, reduceLeDiff → sN6, reduceSub → sN7
open Int renaming reduceLE → sI1, reduceLT → sI2, reduceEq → sI3
open Go Go.Vm Go.Proofs
set_option maxRecDepth 100000
set_option maxHeartbeats 8000000
set_option maxHeartbeats 8000000
def gT (z : Nat × Ver) : AV := gO z.2
theorem swap_fin (ys : List (Nat × Ver)) (i j : Nat) (hne : i ≠ j) {h1 h2 : AV} : ((((ys.map gT).set j h1).set i h2).set i (gO ys[j]!.2)).set j (gO ys[i]!.2) = (sw2 ys i j).map gT := by
  rw [List.set_set, List.set_comm _ _ (Ne.symm hne), List.set_set]
  unfold sw2
  rw [List.map_set, List.map_set]
  rfl
theorem f246 (zs : List (Nat × Ver)) (a b n : Nat) (hab : a + n ≤ b) (hb : b + n ≤ zs.length) (hl : zs.length ≤ 1048576) : FxR 246 [.own 4 (zs.map gT), .int .i64 a, .int .i64 b, .int .i64 n, .clo 182 []] fun r l => r = .tup [] ∧ l = .own 4 ((swr zs a b n).map gT) := by
  refine fn_ofWN ⟨false, [29, 35], []⟩ (k := 0) Tryz.func246 (by kernel_rfl) rfl (by kernel_rfl) (by kernel_rfl) (Nat.le_of_ble_eq_true rfl) rfl ⟨_, _, .inl rfl⟩ rfl fun Q hQ hN => ?_
  simp only [tr_seq, tr_block, tr_loop, tr_cond, tr_skip, tr_exit, tr_ret, tr_reg]
  rw [tr_cut 21 (by kernel_rfl)]
  simp only [vmA, sN1, reduceIte, sN2, sN3, reduceCtorEq, sN4, sI1, sI2, sI3, sN5, sN6, List.length_map]
  refine WT_loop (fun (k : Nat) σ => k ≤ n ∧ σ.sl 0 = .hd 0 1 0 zs.length false ∧ (σ.en 0).live = true ∧ (σ.en 0).gen = 1 ∧ (σ.en 0).frz = false ∧ (σ.en 0).sz = 4 ∧ (σ.en 0).elems = (swr zs a b k).map gT ∧ σ.sl 1 = .int .i64 a ∧ σ.sl 2 = .int .i64 b ∧ σ.sl 3 = .int .i64 n ∧ σ.sl 10 = .int .i64 k) (fun k => n - k) 0 ⟨by omega, by simp [vmI], by simp [vmI], by simp [vmI], by simp [vmI], by simp [vmI], by simp [vmI, swr_zero], by simp [vmI], by simp [vmI], by simp [vmI], by simp [vmI]⟩ ?_
  rintro k σ ⟨hk, e0, l1, l2, l3, l4, l5, e1, e2, e3, e10⟩
  have hsl := swr_length zs a b k
  have hst := fun h : k < n => swr_step (l := zs) hab h hb
  obtain ⟨ys, hys⟩ : ∃ ys, swr zs a b k = ys := ⟨_, rfl⟩
  rw [hys] at l5 hsl hst
  by_cases hlt : k < n
  · have hw1 : IntKind.i64.wrap ((a : Int) + k) = ((a + k : Nat) : Int) := by rw [wr (by omega)]; omega
    have hw2 : IntKind.i64.wrap ((b : Int) + k) = ((b + k : Nat) : Int) := by rw [wr (by omega)]; omega
    have hi : (a + k < zs.length) = True := eq_true (by omega)
    have hj : (b + k < zs.length) = True := eq_true (by omega)
    have hn1 : (b + k = a + k) = False := eq_false (by omega)
    have hn2 : (a + k = b + k) = False := eq_false (by omega)
    have hk2 : ((k : Int) < n) = True := eq_true (by omega)
    simp only [vmA, sN1, reduceIte, sN2, sN3, reduceCtorEq, sN4, sI1, sI2, sI3, sN5, sN6, e0, l1, l2, l3, l4, l5, e1, e2, e3, e10, List.length_map, hsl, gT, gO, hw1, hw2, Int.toNat_natCast, List.getElem?_set_self, List.getElem?_set_ne, hi, hj, hn1, hn2, List.length_set, not_false_eq_true, hk2, true_implies, not_true_eq_false, false_implies]
    rw [wr (by omega)]
    refine ⟨by omega, by omega, by omega, by omega, k + 1, ⟨by omega, ?_, leafJ (by omega)⟩, by omega⟩
    rw [← hst hlt]
    exact swap_fin ys (a + k) (b + k) (by omega)
  · have hk2 : ((k : Int) < n) = False := eq_false (by omega)
    simp only [vmA, sN1, reduceIte, sN2, sN3, reduceCtorEq, sN4, sI1, sI2, sI3, sN5, sN6, e0, l1, l2, l3, l4, l5, e1, e2, e3, e10, List.length_map, hsl, gT, gO, hk2, false_implies, not_false_eq_true, true_implies]
    obtain rfl : k = n := by omega
    (refine hN _ ?_; simp only [vmA, sN1, reduceIte, sN2, sN3, reduceCtorEq, sN4, sI1, sI2, sI3, sN5, sN6, Tryz.f246, retG, resL, St.closeVs, St.closeV, leftV, ghostW, e0, l1, l2, l3, l4, l5, List.length_map, hsl, gT, gO])
    rw [List.take_of_length_le (by simp; omega), hys]
theorem f245 (zs : List (Nat × Ver)) (a m b : Nat) (ham : a < m) (hmb : m < b) (hb : b ≤ zs.length) (hl : zs.length ≤ 1048576) : FxR 245 [.own 4 (zs.map gT), .int .i64 a, .int .i64 m, .int .i64 b, .clo 182 []] fun r l => r = .tup [] ∧ l = .own 4 ((rot zs a m b).map gT) := by
  refine fn_ofWN false (k := 0) Tryz.func245 (by kernel_rfl) rfl (by kernel_rfl) (by kernel_rfl) (Nat.le_of_ble_eq_true rfl) rfl ⟨_, _, .inl rfl⟩ rfl fun Q hQ hN => ?_
  simp only [tr_seq, tr_block, tr_loop, tr_cond, tr_skip, tr_exit, tr_ret, tr_reg]
  simp only [vmA, sN1, reduceIte, sN2, sN3, reduceCtorEq, sN4, sI1, sI2, sI3, sN5, sN6, List.length_map]
  have hw1 : IntKind.i64.wrap ((m : Int) - a) = ((m - a : Nat) : Int) := by rw [wr (by omega)]; omega
  have hw2 : IntKind.i64.wrap ((b : Int) - m) = ((b - m : Nat) : Int) := by rw [wr (by omega)]; omega
  refine WT_loop (fun (p : Nat × Nat × List (Nat × Ver)) σ => ((0 < p.1 ∧ p.1 ≤ m) ∧ (0 < p.2.1 ∧ m + p.2.1 ≤ zs.length) ∧ p.2.2.length = zs.length ∧ rot p.2.2 (m - p.1) m (m + p.2.1) = rot zs a m b) ∧ σ.sl 0 = .hd 0 1 0 zs.length false ∧ (σ.en 0).live = true ∧ (σ.en 0).gen = 1 ∧ (σ.en 0).frz = false ∧ (σ.en 0).sz = 4 ∧ (σ.en 0).elems = p.2.2.map gT ∧ σ.sl 2 = .int .i64 m ∧ σ.sl 4 = .clo 182 [] ∧ σ.sl 10 = .int .i64 p.1 ∧ σ.sl 11 = .int .i64 p.2.1) (fun p => p.1 + p.2.1) (m - a, b - m, zs) ⟨⟨⟨by dsimp only; omega, by dsimp only; omega⟩, ⟨by dsimp only; omega, by dsimp only; omega⟩, rfl, by dsimp only; rw [show m - (m - a) = a by omega, show m + (b - m) = b by omega]⟩, by simp [vmI], by simp [vmI], by simp [vmI], by simp [vmI], by simp [vmI], by simp [vmI], by simp [vmI], by simp [vmI], by simp [vmI, hw1], by simp [vmI, hw2]⟩ ?_
  rintro ⟨i, j, ys⟩ σ ⟨⟨⟨hi0, hi⟩, ⟨hj0, hj⟩, hyl, hr⟩, e0, l1, l2, l3, l4, l5, e2, e4, e10, e11⟩
  dsimp only at hi0 hi hj0 hj hyl hr l5 e10 e11
  have hw3 : IntKind.i64.wrap ((m : Int) - i) = ((m - i : Nat) : Int) := by rw [wr (by omega)]; omega
  have hw4 : IntKind.i64.wrap (((m + j : Nat) : Int) - i) = ((m + j - i : Nat) : Int) := by rw [wr (by omega)]; omega
  have hw5 : IntKind.i64.wrap ((m : Int) + j) = ((m + j : Nat) : Int) := by rw [wr (by omega)]; omega
  simp only [vmA, sN1, reduceIte, sN2, sN3, reduceCtorEq, sN4, sI1, sI2, sI3, sN5, sN6, e0, l1, l2, l3, l4, l5, e2, e4, e10, e11, List.length_map, hyl, hw3, hw5, hw4]
  refine ⟨fun hne => ⟨fun hgt => ?_, fun hle => ?_⟩, fun heq => ?_⟩
  · refine callR (f246 ys (m - i) m j (by omega) (by omega) (by omega)) ?_
    rintro _ _ ⟨rfl, rfl⟩
    simp only [vmA, sN1, reduceIte, sN2, sN3, reduceCtorEq, sN4, sI1, sI2, sI3, sN5, sN6, e0, l1, l2, l3, l4, l5, e2, e4, e10, e11, List.length_map, swr_length, hyl]
    rw [wr (by omega)]
    refine ⟨(i - j, j, swr ys (m - i) m j), ⟨⟨⟨by dsimp only; omega, by dsimp only; omega⟩, ⟨by dsimp only; omega, by dsimp only; omega⟩, by dsimp only; rw [swr_length]; exact hyl, ?_⟩, rfl, leafJ (by dsimp only; omega), rfl⟩, by dsimp only; omega⟩
    dsimp only
    rw [rot_gt (by omega) hi (by omega)]
    exact hr
  · refine callR (f246 ys (m - i) (m + j - i) i (by omega) (by omega) (by omega)) ?_
    rintro _ _ ⟨rfl, rfl⟩
    simp only [vmA, sN1, reduceIte, sN2, sN3, reduceCtorEq, sN4, sI1, sI2, sI3, sN5, sN6, e0, l1, l2, l3, l4, l5, e2, e4, e10, e11, List.length_map, swr_length, hyl]
    rw [wr (by omega)]
    refine ⟨(i, j - i, swr ys (m - i) (m + j - i) i), ⟨⟨⟨by dsimp only; omega, by dsimp only; omega⟩, ⟨by dsimp only; omega, by dsimp only; omega⟩, by dsimp only; rw [swr_length]; exact hyl, ?_⟩, rfl, rfl, leafJ (by dsimp only; omega)⟩, by dsimp only; omega⟩
    dsimp only
    rw [rot_lt (by omega) hi (by omega)]
    exact hr
  · refine callR (f246 ys (m - i) m i (by omega) (by omega) (by omega)) ?_
    rintro _ _ ⟨rfl, rfl⟩
    simp only [vmA, sN1, reduceIte, sN2, sN3, reduceCtorEq, sN4, sI1, sI2, sI3, sN5, sN6, e0, l1, l2, l3, l4, l5, e2, e4, e10, e11, List.length_map, swr_length, hyl]
    obtain rfl : i = j := by omega
    (refine hN _ ?_; simp only [vmA, sN1, reduceIte, sN2, sN3, reduceCtorEq, sN4, sI1, sI2, sI3, sN5, sN6, Tryz.f245, retG, resL, St.closeVs, St.closeV, leftV, ghostW, List.length_map, swr_length, hyl])
    rw [List.take_of_length_le (by simp [swr_length]; omega), rot_eq hi, hr]
def DecA {β : Type} [Inhabited β] (cf : β → β → Int) (lt : β → β → Prop) (a b : Nat) (l : List β) : Prop := ∀ p q, a ≤ p → p < q → q < b → (cf l[q]! l[p]! < 0 → lt l[q]! l[p]!) ∧ (¬ cf l[q]! l[p]! < 0 → lt l[p]! l[q]!)
theorem dn_at {β : Type} [Inhabited β] {l : List β} {i j p : Nat} (hp : p < l.length) : (dn l i j)[p]! = dnF l i j p := mkL_at _ hp
theorem dn_length {β : Type} [Inhabited β] (l : List β) (i j : Nat) : (dn l i j).length = l.length := mkL_length _ _
theorem memG {β : Type} [Inhabited β] {l : List β} {i : Nat} (h : i < l.length) : l[i]! ∈ l := by rw [getElem!_pos l i h]; exact List.getElem_mem _
theorem f240 (zs : List (Nat × Ver)) (a b : Nat) (cf : (Nat × Ver) → (Nat × Ver) → Int) (lt : (Nat × Ver) → (Nat × Ver) → Prop) (ht : ∀ x y z, lt x y → lt y z → lt x z) (hc : ∀ x y, x ∈ zs → y ∈ zs → Fx 182 [gA x.2, gA y.2] (.int .i64 (cf x y)))
    (hd : DecA cf lt a b zs) (hb : b ≤ zs.length) (hab : a ≤ b) (hl : zs.length ≤ 1048576) : FxR 240 [.own 4 (zs.map gT), .int .i64 a, .int .i64 b, .clo 182 []] fun r l => r = .tup [] ∧ ∃ ys, l = .own 4 (ys.map gT) ∧ PIn a b zs ys ∧ Asc lt a b ys := by
  refine fn_ofWN ⟨false, [46, 50], []⟩ (k := 0) Tryz.func240 (by kernel_rfl) rfl (by kernel_rfl) (by kernel_rfl) (Nat.le_of_ble_eq_true rfl) rfl ⟨_, _, .inl rfl⟩ rfl fun Q hQ hN => ?_
  simp only [tr_seq, tr_block, tr_loop, tr_cond, tr_skip, tr_exit, tr_ret, tr_reg]
  rw [tr_calm (by kernel_rfl), tr_cut 15 (by kernel_rfl)]
  simp only [vmA, sN1, reduceIte, sN2, sN3, reduceCtorEq, sN4, sI1, sI2, sI3, sN5, sN6, List.length_map]
  rw [wr (by omega)]
  refine WT_loop (fun (p : Nat × List (Nat × Ver)) σ => ((a < p.1 ∧ p.1 ≤ zs.length + 1) ∧ (p.1 ≤ b ∨ p.2 = zs) ∧ PIn a p.1 zs p.2 ∧ Asc lt a p.1 p.2) ∧ σ.sl 0 = .hd 0 1 0 zs.length false ∧ (σ.en 0).live = true ∧ (σ.en 0).gen = 1 ∧ (σ.en 0).frz = false ∧ (σ.en 0).sz = 4 ∧ (σ.en 0).elems = p.2.map gT ∧ σ.sl 1 = .int .i64 a ∧ σ.sl 2 = .int .i64 b ∧ σ.sl 3 = .clo 182 [] ∧ σ.sl 8 = .int .i64 p.1) (fun p => zs.length + 1 - p.1) (a + 1, zs) ⟨⟨⟨by dsimp only; omega, by dsimp only; omega⟩, .inr rfl, .refl _ _ _, fun p q h1 h2 h3 => absurd h2 (by dsimp only at h3; omega)⟩, by simp [vmI], by simp [vmI], by simp [vmI], by simp [vmI], by simp [vmI], by simp [vmI], by simp [vmI], by simp [vmI], by simp [vmI], by simp [vmI]⟩ ?_
  rintro ⟨i, ys⟩ σ ⟨⟨⟨hai, hi⟩, hib, hp, hs⟩, e0, l1, l2, l3, l4, l5, e1, e2, e3, e8⟩
  dsimp only at hai hi hib hp hs l5 e8
  have hyl := hp.length
  simp only [vmA, sN1, reduceIte, sN2, sN3, reduceCtorEq, sN4, sI1, sI2, sI3, sN5, sN6, e0, l1, l2, l3, l4, l5, e1, e2, e3, e8, List.length_map, hyl]
  refine ⟨fun hlt => ?_, fun hge => ?_⟩
  · refine WT_loop (fun (j : Nat) σ => (a ≤ j ∧ j ≤ i ∧ ∀ k, j ≤ k → k < i → lt ys[i]! ys[k]!) ∧ σ.sl 0 = .hd 0 1 0 zs.length false ∧ (σ.en 0).live = true ∧ (σ.en 0).gen = 1 ∧ (σ.en 0).frz = false ∧ (σ.en 0).sz = 4 ∧ (σ.en 0).elems = (dn ys i j).map gT ∧ σ.sl 1 = .int .i64 a ∧ σ.sl 2 = .int .i64 b ∧ σ.sl 3 = .clo 182 [] ∧ σ.sl 8 = .int .i64 i ∧ σ.sl 9 = .int .i64 j) (fun j => j) i ⟨⟨by omega, Nat.le_refl _, fun k h1 h2 => absurd h1 (by omega)⟩, by simp [vmI, e0], by simp [vmI, l1], by simp [vmI, l2], by simp [vmI, l3], by simp [vmI, l4], by simp [vmI, l5, dn_self], by simp [vmI, e1], by simp [vmI, e2], by simp [vmI, e3], by simp [vmI, e8], by simp [vmI]⟩ ?_
    clear e0 l1 l2 l3 l4 l5 e1 e2 e3 e8
    rintro j σ ⟨⟨haj, hji, hjk⟩, e0, l1, l2, l3, l4, l5, e1, e2, e3, e8, e9⟩
    have hxl : (dn ys i j).length = zs.length := by rw [dn_length]; exact hyl
    have hxp : PIn a (i + 1) zs (dn ys i j) := (hp.mono (Nat.le_refl _) (by omega)).trans (PIn.dn (a := a) (b := i + 1) (i := i) (l := ys) (by omega) (by omega) (i - j) j (by omega) haj)
    have hmem : ∀ x ∈ dn ys i j, x ∈ zs := fun x hx => hxp.perm.mem_iff.1 hx
    have hdec : ∀ k, a ≤ k → k < i → (cf ys[i]! ys[k]! < 0 → lt ys[i]! ys[k]!) ∧ (¬ cf ys[i]! ys[k]! < 0 → lt ys[k]! ys[i]!) := fun k h1 h2 => by
      obtain ⟨k', q1, q2, q3⟩ := hp.mem k h1 h2
      rw [hp.out i (.inr (Nat.le_refl _)), q3]
      exact hd k' i q1 q2 (by omega)
    have hend : (j = a ∨ ¬ cf ys[i]! ys[j - 1]! < 0) → Asc lt a (i + 1) (dn ys i j) := fun h => asc_dn hs haj hji (by omega) (fun k h1 h2 => by
      rcases h with h | h
      · omega
      · exact hs.le ht h1 (by omega : k ≤ j - 1) (by omega) ((hdec (j - 1) (by omega) (by omega)).2 h)) hjk
    have hst := fun h0 : 0 < j => dn_step (l := ys) (i := i) h0 hji (by omega)
    have hxj : (dn ys i j)[j]! = ys[i]! := by
      rw [dn_at (by omega), dnF, if_neg (by omega), if_pos rfl]
    have hxj1 : a < j → (dn ys i j)[j - 1]! = ys[j - 1]! := fun h => by
      rw [dn_at (by omega), dnF, if_pos (.inl (by omega))]
    obtain ⟨xs, hxs⟩ : ∃ xs, dn ys i j = xs := ⟨_, rfl⟩
    rw [hxs] at l5 hxl hxp hmem hend hst hxj hxj1
    by_cases hja : a < j
    · have hg : ((a : Int) < j) = True := eq_true (by omega)
      have hw1 : IntKind.i64.wrap ((j : Int) - 1) = ((j - 1 : Nat) : Int) := by rw [wr (by omega)]; omega
      have hi1 : (j < zs.length) = True := eq_true (by omega)
      have hi2 : (j - 1 < zs.length) = True := eq_true (by omega)
      simp only [vmA, sN1, reduceIte, sN2, sN3, reduceCtorEq, sN4, sI1, sI2, sI3, sN5, sN6, e0, l1, l2, l3, l4, l5, e1, e2, e3, e8, e9, List.length_map, hxl, hg, hw1, Int.toNat_natCast, gT, gO]
      refine ⟨by omega, by omega, by omega, by omega, callD (hc xs[j]! xs[j - 1]! (hmem _ (memG (by omega))) (hmem _ (memG (by omega)))) ?_⟩
      have hn1 : (j - 1 = j) = False := eq_false (by omega)
      have hn2 : (j = j - 1) = False := eq_false (by omega)
      simp only [vmA, sN1, reduceIte, sN2, sN3, reduceCtorEq, sN4, sI1, sI2, sI3, sN5, sN6, e0, l1, l2, l3, l4, l5, e1, e2, e3, e8, e9, List.length_map, hxl, hg, hw1, Int.toNat_natCast, gT, gO, List.getElem?_set_self, List.getElem?_set_ne, hi1, hi2, hn1, hn2, List.length_set, not_false_eq_true]
      rw [hxj, hxj1 hja]
      refine ⟨fun hneg => ?_, fun hpos => ?_⟩
      · refine ⟨by omega, by omega, by omega, by omega, j - 1, ⟨⟨by omega, by omega, fun k h1 h2 => ?_⟩, ?_, rfl⟩, by omega⟩
        · by_cases hk : k = j - 1
          · rw [hk]; exact (hdec (j - 1) (by omega) (by omega)).1 hneg
          · exact hjk k (by omega) h2
        · have := fun h1 h2 => @swap_fin xs j (j - 1) (by omega) h1 h2
          rw [hxj, hxj1 hja, hst (by omega)] at this
          exact this _ _
      · rw [wr (by omega)]
        exact ⟨(i + 1, xs), ⟨⟨⟨by dsimp only; omega, by dsimp only; omega⟩, .inl (by dsimp only; omega), hxp, hend (.inr hpos)⟩, rfl, leafJ (by dsimp only; omega)⟩, by dsimp only; omega⟩
    · have hg : ((a : Int) < j) = False := eq_false (by omega)
      simp only [vmA, sN1, reduceIte, sN2, sN3, reduceCtorEq, sN4, sI1, sI2, sI3, sN5, sN6, e0, l1, l2, l3, l4, l5, e1, e2, e3, e8, e9, List.length_map, hxl, hg]
      rw [wr (by omega)]
      exact ⟨(i + 1, xs), ⟨⟨⟨by dsimp only; omega, by dsimp only; omega⟩, .inl (by dsimp only; omega), hxp, hend (.inl (by omega))⟩, rfl, leafJ (by dsimp only; omega)⟩, by dsimp only; omega⟩
  · (refine hN _ ?_; simp only [vmA, sN1, reduceIte, sN2, sN3, reduceCtorEq, sN4, sI1, sI2, sI3, sN5, sN6, Tryz.f240, retG, resL, St.closeVs, St.closeV, leftV, ghostW, e0, l1, l2, l3, l4, l5, List.length_map, hyl])
    refine ⟨ys, by rw [List.take_of_length_le (by simp; omega)], ?_, fun p q h1 h2 h3 => hs p q h1 h2 (by omega)⟩
    rcases hib with h | h
    · obtain rfl : i = b := by omega
      exact hp
    · rw [h]; exact .refl _ _ _
