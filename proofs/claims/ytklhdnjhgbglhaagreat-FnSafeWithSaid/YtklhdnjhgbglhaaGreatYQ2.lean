/- WALK, or plain laws for it: theorem f<k> says what function k returns. Conditions: none but those ahead of each theorem. -/
import Derived.Test.YtklhdnjhgbglhaaGreatYP6
import Derived.Test.YtklhdnjhgbglhaaGreatYH7
set_option linter.unusedVariables false
set_option linter.unusedSimpArgs false
open Nat renaming reduceEqDiff → sN1, reduceAdd → sN2, reduceBEq → sN3, reduceLT → sN4, reduceMul → sN5, reduceLeDiff → sN6, reduceSub → sN7
open Int renaming reduceLE → sI1, reduceLT → sI2, reduceEq → sI3
section
open Go Go.Vm Go.Proofs
set_option maxRecDepth 100000
set_option maxHeartbeats 8000000
theorem mem_at {xs : List Int} {k : Int} : k ∈ xs ↔ ∃ j, j < xs.length ∧ xs[j]! = k := by
  rw [List.mem_iff_getElem]
  exact ⟨fun ⟨i, h, e⟩ => ⟨i, h, by rw [getElem!_pos xs i h]; exact e⟩, fun ⟨i, h, e⟩ => ⟨i, h, by rw [← getElem!_pos xs i h]; exact e⟩⟩
theorem own_has (k : Int) : ∀ (ws : List Wr) (i : Nat), 0 ≤ ownL k ws i ↔ hasW ws k
  | [], i => by
    unfold hasW ownL
    simp
  | w :: ws, i => by
    rw [ownL]
    by_cases h : w.key = k
    · rw [if_pos h]
      exact ⟨fun _ => ⟨w, by simp, h⟩, fun _ => by omega⟩
    · rw [if_neg h, own_has k ws (i + 1)]
      unfold hasW
      constructor
      · rintro ⟨x, hx, e⟩; exact ⟨x, by simp [hx], e⟩
      · rintro ⟨x, hx, e⟩
        rcases List.mem_cons.1 hx with rfl | hx
        · exact absurd e h
        · exact ⟨x, hx, e⟩
theorem blN_succ {a b : Tx} {k : Nat} (h : ¬ blN a b k) (h2 : ¬ ((k : Int) ∈ a.rd ∧ hasW b.ws k ∧ a.bg < b.fn)) : ¬ blN a b (k + 1) := by
  rintro ⟨j, hj, e⟩
  by_cases hjk : j = k
  · subst hjk; exact h2 e
  · exact h ⟨j, by omega, e⟩
theorem f226 (t : Tx) (key : Int) (hs : t.rd.length ≤ 9223372036854775807) : Fx 226 [xA t, .int .i64 key] (.bool (decide (key ∈ t.rd))) := by
  refine fn_of ⟨false, [], []⟩ Tryz.func226 (by kernel_rfl) rfl (by kernel_rfl) (by kernel_rfl) (Nat.le_of_ble_eq_true rfl) rfl fun Q hQ => ?_
  simp only [vmA, sN1, reduceIte, sN2, sN3, reduceCtorEq, sN4, sI1, sI2, sI3, sN5, sN6, xA, List.length_map]
  refine WT_loop (fun (i : Nat) σ => (i ≤ t.rd.length ∧ ∀ j, j < i → t.rd[j]! ≠ key) ∧ σ.sl 5 = .int .i64 i ∧ σ.sl 2 = .ptr 128 1 0 0 ∧ (σ.en 128).live = true ∧ (σ.en 128).gen = 1 ∧ (σ.en 128).frz = false ∧ (σ.en 128).sz = 5 ∧ (σ.en 128).elems = [xA t] ∧ σ.sl 1 = .int .i64 key) (fun i => t.rd.length - i) (0) ⟨⟨Nat.zero_le _, fun j hj => absurd hj (Nat.not_lt_zero _)⟩, by simp [vmI, xA], by simp [vmI, xA], by simp [vmI, xA], by simp [vmI, xA], by simp [vmI, xA], by simp [vmI, xA], by simp [vmI, xA], by simp [vmI, xA]⟩ ?_
  rintro i σ ⟨hi, e5, e2, m128a, m128b, m128c, m128d, m128e, e1⟩
  obtain ⟨hi, hL⟩ := hi
  simp only [vmA, sN1, reduceIte, sN2, sN3, reduceCtorEq, sN4, sI1, sI2, sI3, sN5, sN6, e5, e2, m128a, m128b, m128c, m128d, m128e, e1, xA, List.length_map]
  refine ⟨fun h => ⟨h, by omega, fun he => ?_, fun hne => ?_⟩, fun h => ?_⟩
  · (refine hQ _ ?_; simp only [vmA, sN1, reduceIte, sN2, sN3, reduceCtorEq, sN4, sI1, sI2, sI3, sN5, sN6, Tryz.f226, retG, resL, St.closeVs, St.closeV, e5, e2, m128a, m128b, m128c, m128d, m128e, e1])
    exact leafG ⟨fun _ => mem_at.2 ⟨i, by omega, he⟩, fun _ => rfl⟩
  · rw [wr (by omega)]
    exact ⟨i + 1, ⟨⟨by omega, fun j hj => by
      by_cases hji : j = i
      · subst hji; exact hne
      · exact hL j (by omega)⟩, rfl⟩, by omega⟩
  · (refine hQ _ ?_; simp only [vmA, sN1, reduceIte, sN2, sN3, reduceCtorEq, sN4, sI1, sI2, sI3, sN5, sN6, Tryz.f226, retG, resL, St.closeVs, St.closeV, e5, e2, m128a, m128b, m128c, m128d, m128e, e1])
    exact leafG ⟨fun e => (by cases e), fun e => by
      obtain ⟨j, hj, e⟩ := mem_at.1 e
      exact absurd e (hL j (by omega))⟩
theorem f190 (a b : Tx) (ha : okX a) (hb : okX b) : Fx 190 [xA a, xA b, .int .i64 3] (.bool (decide (blP a b))) := by
  refine fn_of ⟨false, [], []⟩ Tryz.func190 (by kernel_rfl) rfl (by kernel_rfl) (by kernel_rfl) (Nat.le_of_ble_eq_true rfl) rfl fun Q hQ => ?_
  simp only [vmA, sN1, reduceIte, sN2, sN3, reduceCtorEq, sN4, sI1, sI2, sI3, sN5, sN6, xA]
  refine WT_loop (fun (k : Nat) σ => (k ≤ 5 ∧ ¬ blN a b k) ∧ σ.sl 7 = .int .i64 k ∧ σ.sl 3 = .ptr 192 1 0 0 ∧ (σ.en 192).live = true ∧ (σ.en 192).gen = 1 ∧ (σ.en 192).frz = false ∧ (σ.en 192).sz = 5 ∧ (σ.en 192).elems = [xA a] ∧ σ.sl 4 = .ptr 256 1 0 0 ∧ (σ.en 256).live = true ∧ (σ.en 256).gen = 1 ∧ (σ.en 256).frz = false ∧ (σ.en 256).sz = 5 ∧ (σ.en 256).elems = [xA b] ∧ σ.sl 2 = .int .i64 3) (fun k => 5 - k) (0) ⟨⟨Nat.zero_le _, fun ⟨j, hj, _⟩ => absurd hj (Nat.not_lt_zero _)⟩, by simp [vmI, xA], by simp [vmI, xA], by simp [vmI, xA], by simp [vmI, xA], by simp [vmI, xA], by simp [vmI, xA], by simp [vmI, xA], by simp [vmI, xA], by simp [vmI, xA], by simp [vmI, xA], by simp [vmI, xA], by simp [vmI, xA], by simp [vmI, xA], by simp [vmI, xA]⟩ ?_
  rintro k σ ⟨hk, e7, e3, m192a, m192b, m192c, m192d, m192e, e4, m256a, m256b, m256c, m256d, m256e, e2⟩
  obtain ⟨hk, hn⟩ := hk
  simp only [vmA, sN1, reduceIte, sN2, sN3, reduceCtorEq, sN4, sI1, sI2, sI3, sN5, sN6, e7, e3, m192a, m192b, m192c, m192d, m192e, e4, m256a, m256b, m256c, m256d, m256e, e2, xA]
  refine ⟨fun hlt => callD (f127x a k ha.2.1) ?_, fun hge => ?_⟩
  · simp only [vmA, sN1, reduceIte, sN2, sN3, reduceCtorEq, sN4, sI1, sI2, sI3, sN5, sN6, e7, e3, m192a, m192b, m192c, m192d, m192e, e4, m256a, m256b, m256c, m256d, m256e, e2, xA]
    refine callD (f127x b k hb.2.1) ?_
    simp only [vmA, sN1, reduceIte, sN2, sN3, reduceCtorEq, sN4, sI1, sI2, sI3, sN5, sN6, e7, e3, m192a, m192b, m192c, m192d, m192e, e4, m256a, m256b, m256c, m256d, m256e, e2, xA]
    refine callD (f226 a k ha.1) ?_
    simp only [vmA, sN1, reduceIte, sN2, sN3, reduceCtorEq, sN4, sI1, sI2, sI3, sN5, sN6, e7, e3, m192a, m192b, m192c, m192d, m192e, e4, m256a, m256b, m256c, m256d, m256e, e2, xA, decide_eq_true_eq]
    have e1 := own_has k b.ws 0
    have nx : ¬ ((k : Int) ∈ a.rd ∧ hasW b.ws k ∧ a.bg < b.fn) → k + 1 ≤ 5 ∧ ¬ blN a b (k + 1) := fun hx => ⟨by omega, blN_succ hn hx⟩
    refine ⟨fun h1 => ⟨fun h2 => ⟨fun h3 => ?_, fun h3 => ?_⟩, fun h2 => ?_⟩, fun h1 => ?_⟩
    · (refine hQ _ ?_; simp only [vmA, sN1, reduceIte, sN2, sN3, reduceCtorEq, sN4, sI1, sI2, sI3, sN5, sN6, Tryz.f190, retG, resL, St.closeVs, St.closeV, e7, e3, m192a, m192b, m192c, m192d, m192e, e4, m256a, m256b, m256c, m256d, m256e, e2])
      exact leafG ⟨fun _ => ⟨k, by omega, h1, e1.1 h2, h3⟩, fun _ => rfl⟩
    · rw [wr (by omega)]
      exact ⟨k + 1, ⟨nx fun e => h3 e.2.2, rfl⟩, by omega⟩
    · rw [wr (by omega)]
      exact ⟨k + 1, ⟨nx fun e => h2 (e1.2 e.2.1), rfl⟩, by omega⟩
    · rw [wr (by omega)]
      exact ⟨k + 1, ⟨nx fun e => h1 e.1, rfl⟩, by omega⟩
  · (refine hQ _ ?_; simp only [vmA, sN1, reduceIte, sN2, sN3, reduceCtorEq, sN4, sI1, sI2, sI3, sN5, sN6, Tryz.f190, retG, resL, St.closeVs, St.closeV, e7, e3, m192a, m192b, m192c, m192d, m192e, e4, m256a, m256b, m256c, m256d, m256e, e2])
    exact leafG ⟨fun e => (by cases e), fun e => by
      obtain rfl : k = 5 := by omega
      exact absurd e hn⟩
theorem f133 (a b : Tx) : Fx 133 [xA a, xA b] (.bool (decide (besP a b))) := by
  refine fn_of ⟨false, [], []⟩ Tryz.func133 (by kernel_rfl) rfl (by kernel_rfl) (by kernel_rfl) (Nat.le_of_ble_eq_true rfl) rfl fun Q hQ => ?_
  simp only [vmA, sN1, reduceIte, sN2, sN3, reduceCtorEq, sN4, sI1, sI2, sI3, sN5, sN6, xA]
  refine ⟨fun h1 => ?_, fun h1 => ?_⟩
  · (refine hQ _ ?_; simp only [vmA, sN1, reduceIte, sN2, sN3, reduceCtorEq, sN4, sI1, sI2, sI3, sN5, sN6, Tryz.f133, retG, resL, St.closeVs, St.closeV])
    exact leafB ⟨fun h => ⟨h1, h⟩, fun h => h.2⟩
  · (refine hQ _ ?_; simp only [vmA, sN1, reduceIte, sN2, sN3, reduceCtorEq, sN4, sI1, sI2, sI3, sN5, sN6, Tryz.f133, retG, resL, St.closeVs, St.closeV])
    exact leafF fun h => h1 h.1
theorem f132 (h : Hs) (a b : Nat) (ho : okH h) (h4 : h.tx.length = 4) (ha : a < 4) (hb : b < 4) : Fx 132 [hA h, .int .i64 a, .int .i64 b, .int .i64 3] (.bool (decide (edgeP h.tx a b))) := by
  refine fn_of ⟨false, [], []⟩ Tryz.func132 (by kernel_rfl) rfl (by kernel_rfl) (by kernel_rfl) (Nat.le_of_ble_eq_true rfl) rfl fun Q hQ => ?_
  simp only [vmA, sN1, reduceIte, sN2, sN3, reduceCtorEq, sN4, sI1, sI2, sI3, sN5, sN6, hA, xA, List.length_map, h4]
  have oa := ho.at (i := a) (by omega)
  have ob := ho.at (i := b) (by omega)
  refine ⟨fun h1 => ⟨by omega, by omega, fun h2 => ⟨by omega, by omega, fun h3 => ⟨by omega, by omega, by omega, by omega, callD (f190 h.tx[a]! h.tx[b]! oa ob) ?_⟩, fun h3 => ?_⟩, fun h2 => ?_⟩, fun h1 => ?_⟩
  · simp only [vmA, sN1, reduceIte, sN2, sN3, reduceCtorEq, sN4, sI1, sI2, sI3, sN5, sN6, hA, xA, List.length_map, h4]
    (refine hQ _ ?_; simp only [vmA, sN1, reduceIte, sN2, sN3, reduceCtorEq, sN4, sI1, sI2, sI3, sN5, sN6, Tryz.f132, retG, resL, St.closeVs, St.closeV])
    exact leafB ⟨fun e => ⟨fun e2 => h1 (by rw [e2]), h2, h3, e⟩, fun e => e.2.2.2⟩
  · (refine hQ _ ?_; simp only [vmA, sN1, reduceIte, sN2, sN3, reduceCtorEq, sN4, sI1, sI2, sI3, sN5, sN6, Tryz.f132, retG, resL, St.closeVs, St.closeV])
    exact leafF fun e => h3 e.2.2.1
  · (refine hQ _ ?_; simp only [vmA, sN1, reduceIte, sN2, sN3, reduceCtorEq, sN4, sI1, sI2, sI3, sN5, sN6, Tryz.f132, retG, resL, St.closeVs, St.closeV])
    exact leafF fun e => h2 e.2.1
  · (refine hQ _ ?_; simp only [vmA, sN1, reduceIte, sN2, sN3, reduceCtorEq, sN4, sI1, sI2, sI3, sN5, sN6, Tryz.f132, retG, resL, St.closeVs, St.closeV])
    exact leafF fun e => e.1 (by omega)
end
section
open Go Go.Vm Go.Proofs
set_option maxRecDepth 100000
set_option maxHeartbeats 8000000
def noDan (ts : List Tx) (n : Nat) : Prop := ∀ m, m < n → ¬ danN ts m
theorem noDan_zero (ts : List Tx) : noDan ts 0 := fun m hm => absurd hm (Nat.not_lt_zero _)
theorem noDan_next {ts : List Tx} {a b c : Nat} (h : noDan ts (16 * a + 4 * b + c)) (hb : b < 4) (hc : c < 4) (h2 : ¬ danP ts a b c) : noDan ts (16 * a + 4 * b + (c + 1)) := fun m hm => by
  by_cases hx : m = 16 * a + 4 * b + c
  · rw [hx, danN_abc hb hc]; exact h2
  · exact h m (by omega)
theorem f71 (h : Hs) (ho : okH h) (hp : houseP h) : Fx 71 [hA h] (.own 1 ((danL h.tx).map iA)) := by
  have h4 := hp.2.2.2.1
  refine fn_of ⟨false, [], []⟩ Tryz.func71 (by kernel_rfl) rfl (by kernel_rfl) (by kernel_rfl) (Nat.le_of_ble_eq_true rfl) rfl fun Q hQ => ?_
  simp only [vmA, sN1, reduceIte, sN2, sN3, reduceCtorEq, sN4, sI1, sI2, sI3, sN5, sN6, hA]
  refine WT_loop (fun (a : Nat) σ => (a ≤ 4 ∧ noDan h.tx (16 * a)) ∧ σ.sl 3 = .int .i64 a ∧ σ.sl 1 = .ptr 64 1 0 0 ∧ (σ.en 64).live = true ∧ (σ.en 64).gen = 1 ∧ (σ.en 64).frz = false ∧ (σ.en 64).sz = 3 ∧ (σ.en 64).elems = [hA h]) (fun a => 4 - a) (0) ⟨⟨Nat.zero_le _, noDan_zero _⟩, by simp [vmI, hA], by simp [vmI, hA], by simp [vmI, hA], by simp [vmI, hA], by simp [vmI, hA], by simp [vmI, hA], by simp [vmI, hA]⟩ ?_
  rintro a σ ⟨hn, e3, e1, m64a, m64b, m64c, m64d, m64e⟩
  obtain ⟨ha, hn⟩ := hn
  simp only [vmA, sN1, reduceIte, sN2, sN3, reduceCtorEq, sN4, sI1, sI2, sI3, sN5, sN6, e3, e1, m64a, m64b, m64c, m64d, m64e, hA]
  refine ⟨fun hlt => callD (f53 h ho) ?_, fun hge => ?_⟩
  · simp only [vmA, sN1, reduceIte, sN2, sN3, reduceCtorEq, sN4, sI1, sI2, sI3, sN5, sN6, e3, e1, m64a, m64b, m64c, m64d, m64e, hA, decide_eq_true hp]
    refine WT_loop (fun (b : Nat) σ => (b ≤ 4 ∧ noDan h.tx (16 * a + 4 * b)) ∧ σ.sl 4 = .int .i64 b ∧ σ.sl 3 = .int .i64 a ∧ σ.sl 1 = .ptr 64 1 0 0 ∧ (σ.en 64).live = true ∧ (σ.en 64).gen = 1 ∧ (σ.en 64).frz = false ∧ (σ.en 64).sz = 3 ∧ (σ.en 64).elems = [hA h]) (fun b => 4 - b) (0) ⟨⟨Nat.zero_le _, hn⟩, by simp [vmI, e3, e1, m64a, m64b, m64c, m64d, m64e, hA], by simp [vmI, e3, e1, m64a, m64b, m64c, m64d, m64e, hA], by simp [vmI, e3, e1, m64a, m64b, m64c, m64d, m64e, hA], by simp [vmI, e3, e1, m64a, m64b, m64c, m64d, m64e, hA], by simp [vmI, e3, e1, m64a, m64b, m64c, m64d, m64e, hA], by simp [vmI, e3, e1, m64a, m64b, m64c, m64d, m64e, hA], by simp [vmI, e3, e1, m64a, m64b, m64c, m64d, m64e, hA], by simp [vmI, e3, e1, m64a, m64b, m64c, m64d, m64e, hA]⟩ ?_
    clear e3 e1 m64a m64b m64c m64d m64e
    rintro b σ ⟨hn, e4, e3, e1, m64a, m64b, m64c, m64d, m64e⟩
    obtain ⟨hb, hn⟩ := hn
    simp only [vmA, sN1, reduceIte, sN2, sN3, reduceCtorEq, sN4, sI1, sI2, sI3, sN5, sN6, e4, e3, e1, m64a, m64b, m64c, m64d, m64e, hA]
    refine ⟨fun hlt2 => ?_, fun hge2 => ?_⟩
    · skip
      refine WT_loop (fun (c : Nat) σ => (c ≤ 4 ∧ noDan h.tx (16 * a + 4 * b + c)) ∧ σ.sl 5 = .int .i64 c ∧ σ.sl 4 = .int .i64 b ∧ σ.sl 3 = .int .i64 a ∧ σ.sl 1 = .ptr 64 1 0 0 ∧ (σ.en 64).live = true ∧ (σ.en 64).gen = 1 ∧ (σ.en 64).frz = false ∧ (σ.en 64).sz = 3 ∧ (σ.en 64).elems = [hA h]) (fun c => 4 - c) (0) ⟨⟨Nat.zero_le _, hn⟩, by simp [vmI, e4, e3, e1, m64a, m64b, m64c, m64d, m64e, hA], by simp [vmI, e4, e3, e1, m64a, m64b, m64c, m64d, m64e, hA], by simp [vmI, e4, e3, e1, m64a, m64b, m64c, m64d, m64e, hA], by simp [vmI, e4, e3, e1, m64a, m64b, m64c, m64d, m64e, hA], by simp [vmI, e4, e3, e1, m64a, m64b, m64c, m64d, m64e, hA], by simp [vmI, e4, e3, e1, m64a, m64b, m64c, m64d, m64e, hA], by simp [vmI, e4, e3, e1, m64a, m64b, m64c, m64d, m64e, hA], by simp [vmI, e4, e3, e1, m64a, m64b, m64c, m64d, m64e, hA], by simp [vmI, e4, e3, e1, m64a, m64b, m64c, m64d, m64e, hA]⟩ ?_
      clear e4 e3 e1 m64a m64b m64c m64d m64e
      rintro c σ ⟨hn, e5, e4, e3, e1, m64a, m64b, m64c, m64d, m64e⟩
      obtain ⟨hc, hn⟩ := hn
      have nx : c < 4 → ¬ danP h.tx a b c → c + 1 ≤ 4 ∧ noDan h.tx (16 * a + 4 * b + (c + 1)) := fun hc hx => ⟨by omega, noDan_next hn (by omega) hc hx⟩
      simp only [vmA, sN1, reduceIte, sN2, sN3, reduceCtorEq, sN4, sI1, sI2, sI3, sN5, sN6, e5, e4, e3, e1, m64a, m64b, m64c, m64d, m64e, hA]
      refine ⟨fun hlt3 => callD (f132 h a b ho h4 (by omega) (by omega)) ?_, fun hge3 => ?_⟩
      · simp only [vmA, sN1, reduceIte, sN2, sN3, reduceCtorEq, sN4, sI1, sI2, sI3, sN5, sN6, e5, e4, e3, e1, m64a, m64b, m64c, m64d, m64e, hA]
        refine ⟨fun q1 => callD (f132 h b c ho h4 (by omega) (by omega)) ?_, fun q1 => ?_⟩
        · simp only [vmA, sN1, reduceIte, sN2, sN3, reduceCtorEq, sN4, sI1, sI2, sI3, sN5, sN6, e5, e4, e3, e1, m64a, m64b, m64c, m64d, m64e, hA, xA, List.length_map, h4]
          refine ⟨fun q2 => ⟨by omega, by omega, by omega, by omega, callD (f133 h.tx[a]! h.tx[b]!) ?_⟩, fun q2 => ?_⟩
          · simp only [vmA, sN1, reduceIte, sN2, sN3, reduceCtorEq, sN4, sI1, sI2, sI3, sN5, sN6, e5, e4, e3, e1, m64a, m64b, m64c, m64d, m64e, hA, xA, List.length_map, h4]
            refine ⟨fun q3 => ⟨by omega, by omega, by omega, by omega, callD (f133 h.tx[b]! h.tx[c]!) ?_⟩, fun q3 => ?_⟩
            · simp only [vmA, sN1, reduceIte, sN2, sN3, reduceCtorEq, sN4, sI1, sI2, sI3, sN5, sN6, e5, e4, e3, e1, m64a, m64b, m64c, m64d, m64e, hA, xA, List.length_map, h4]
              refine ⟨fun q4 => ⟨by omega, by omega, by omega, by omega, fun q5 => ⟨by omega, by omega, by omega, by omega, fun q6 => ?_, fun q6 => ?_⟩, fun q5 => ?_⟩, fun q4 => ?_⟩
              · have hd : danL h.tx = [(a : Int), (b : Int), (c : Int)] := by
                  rw [danL_some (by omega) ((danN_abc (by omega) (by omega)).2 ⟨q1, q2, q3, q4, q5, q6⟩) hn, three_abc (by omega) (by omega)]
                (refine hQ _ ?_; simp only [vmA, sN1, reduceIte, sN2, sN3, reduceCtorEq, sN4, sI1, sI2, sI3, sN5, sN6, Tryz.f71, retG, resL, St.closeVs, St.closeV, hd])
              · rw [wr (by omega)]
                exact ⟨c + 1, ⟨nx (by omega) fun z => q6 z.2.2.2.2.2, rfl⟩, by omega⟩
              · rw [wr (by omega)]
                exact ⟨c + 1, ⟨nx (by omega) fun z => q5 z.2.2.2.2.1, rfl⟩, by omega⟩
              · rw [wr (by omega)]
                exact ⟨c + 1, ⟨nx (by omega) fun z => q4 z.2.2.2.1, rfl⟩, by omega⟩
            · rw [wr (by omega)]
              exact ⟨c + 1, ⟨nx (by omega) fun z => q3 z.2.2.1, rfl⟩, by omega⟩
          · rw [wr (by omega)]
            exact ⟨c + 1, ⟨nx (by omega) fun z => q2 z.2.1, rfl⟩, by omega⟩
        · rw [wr (by omega)]
          exact ⟨c + 1, ⟨nx (by omega) fun z => q1 z.1, rfl⟩, by omega⟩
      · rw [wr (by omega)]
        obtain rfl : c = 4 := by omega
        exact ⟨b + 1, ⟨⟨by omega, hn⟩, rfl⟩, by omega⟩
    · rw [wr (by omega)]
      obtain rfl : b = 4 := by omega
      exact ⟨a + 1, ⟨⟨by omega, hn⟩, rfl⟩, by omega⟩
  · obtain rfl : a = 4 := by omega
    have hd := danL_none hn
    (refine hQ _ ?_; simp only [vmA, sN1, reduceIte, sN2, sN3, reduceCtorEq, sN4, sI1, sI2, sI3, sN5, sN6, Tryz.f71, retG, resL, St.closeVs, St.closeV, hd])
end
