/- WALK, or plain laws for it: theorem f<k> says what function k returns. Conditions: none but those ahead of each theorem. -/
import Derived.Test.YtklhdnjhgbglhaaGreatYED
set_option linter.unusedVariables false
set_option linter.unusedSimpArgs false
open Nat renaming reduceEqDiff → sN1, reduceAdd → sN2, reduceBEq → sN3, reduceLT → sN4, reduceMul → sN5, reduceLeDiff → sN6, reduceSub → sN7
open Int renaming reduceLE → sI1, reduceLT → sI2, reduceEq → sI3
open Go Go.Vm Go.Proofs
set_option maxRecDepth 100000
set_option maxHeartbeats 8000000
def noDanI (ts : List Tx) (n : Nat) : Prop := ∀ m, m < n → ¬ danN ts m
theorem noDanI_zero (ts : List Tx) : noDanI ts 0 := fun m hm => absurd hm (Nat.not_lt_zero _)
theorem noDanI_next {ts : List Tx} {a b c : Nat} (h : noDanI ts (16 * a + 4 * b + c)) (hb : b < 4) (hc : c < 4) (h2 : ¬ danP ts a b c) : noDanI ts (16 * a + 4 * b + (c + 1)) := fun m hm => by
  by_cases hx : m = 16 * a + 4 * b + c
  · rw [hx, danN_abc hb hc]; exact h2
  · exact h m (by omega)
def edQ (x e : Ed) : Prop := e.fr = x.fr ∧ e.to = x.to ∧ e.kind = x.kind
instance (x e : Ed) : Decidable (edQ x e) := by unfold edQ; exact inferInstance
theorem f196 (xs : List Ed) (c : Bool) (x : Ed) (hl : xs.length ≤ 9223372036854775807) : Fx 196 [.fro none c (xs.map dgA), dgA x] (.int .i64 (idxL (fun e => edQ x e) xs 0)) := by
  refine fn_of ⟨false, [], []⟩ Tryz.func196 (by kernel_rfl) rfl (by kernel_rfl) (by kernel_rfl) (Nat.le_of_ble_eq_true rfl) rfl fun Q hQ => ?_
  simp only [vmA, sN1, reduceIte, sN2, sN3, reduceCtorEq, sN4, sI1, sI2, sI3, sN5, sN6, List.length_map, dgA]
  refine WT_loop (fun (i : Nat) σ => (i ≤ xs.length ∧ idxL (fun e => edQ x e) (xs.drop i) i = idxL (fun e => edQ x e) xs 0) ∧ σ.sl 0 = .fro none c (xs.map dgA) ∧ σ.sl 7 = .int .i64 xs.length ∧ σ.sl 8 = .int .i64 i ∧ σ.sl 3 = .ptr 192 1 0 0 ∧ (σ.en 192).live = true ∧ (σ.en 192).gen = 1 ∧ (σ.en 192).frz = false ∧ (σ.en 192).sz = 3 ∧ (σ.en 192).elems = [dgA x]) (fun i => xs.length - i) (0) ⟨⟨Nat.zero_le _, rfl⟩, by simp [vmI, dgA], by simp [vmI, dgA], by simp [vmI, dgA], by simp [vmI, dgA], by simp [vmI, dgA], by simp [vmI, dgA], by simp [vmI, dgA], by simp [vmI, dgA], by simp [vmI, dgA]⟩ ?_
  rintro i σ ⟨hx, e0, e7, e8, e3, m192a, m192b, m192c, m192d, m192e⟩
  obtain ⟨hi, hx⟩ := hx
  simp only [vmA, sN1, reduceIte, sN2, sN3, reduceCtorEq, sN4, sI1, sI2, sI3, sN5, sN6, e0, e7, e8, e3, m192a, m192b, m192c, m192d, m192e, List.length_map, dgA]
  refine ⟨fun hlt => ?_, fun hge => ?_⟩
  · rw [idxL_drop _ (by omega)] at hx
    by_cases hn : edQ x xs[i]!
    · rw [if_pos hn] at hx
      obtain ⟨q1, q2, q3⟩ := hn
      refine ⟨hlt, by omega, ?_⟩
      simp only [vmA, sN1, reduceIte, sN2, sN3, reduceCtorEq, sN4, sI1, sI2, sI3, sN5, sN6, decide_eq_true q1.symm, decide_eq_true q2.symm, decide_eq_true q3.symm, Bool.and_true]
      (refine hQ _ ?_; simp only [vmA, sN1, reduceIte, sN2, sN3, reduceCtorEq, sN4, sI1, sI2, sI3, sN5, sN6, Tryz.f196, retG, resL, St.closeVs, St.closeV])
      rw [hx]
    · rw [if_neg hn] at hx
      refine ⟨hlt, by omega, ?_⟩
      have hb : (decide (x.fr = xs[i]!.fr) && (decide (x.to = xs[i]!.to) && decide (x.kind = xs[i]!.kind))) = false := by
        rw [← Bool.not_eq_true]
        intro hb
        simp only [Bool.and_eq_true, decide_eq_true_eq] at hb
        exact hn ⟨hb.1.symm, hb.2.1.symm, hb.2.2.symm⟩
      rw [hb]
      simp only [vmA, sN1, reduceIte, sN2, sN3, reduceCtorEq, sN4, sI1, sI2, sI3, sN5, sN6, e0, e7, e8, e3, m192a, m192b, m192c, m192d, m192e]
      rw [wr (by omega)]
      exact ⟨i + 1, ⟨⟨by omega, hx⟩, rfl, rfl⟩, by omega⟩
  · have : xs.drop i = [] := List.drop_of_length_le (by omega)
    rw [this, idxL] at hx
    (refine hQ _ ?_; simp only [vmA, sN1, reduceIte, sN2, sN3, reduceCtorEq, sN4, sI1, sI2, sI3, sN5, sN6, Tryz.f196, retG, resL, St.closeVs, St.closeV])
    rw [← hx]
theorem f147 (xs : List Ed) (c : Bool) (x : Ed) (hl : xs.length ≤ 9223372036854775807) : Fx 147 [.fro none c (xs.map dgA), dgA x] (.bool (decide (∃ e ∈ xs, edQ x e))) := by
  refine fn_of ⟨false, [], []⟩ Tryz.func147 (by kernel_rfl) rfl (by kernel_rfl) (by kernel_rfl) (Nat.le_of_ble_eq_true rfl) rfl fun Q hQ => ?_
  simp only [vmA, sN1, reduceIte, sN2, sN3, reduceCtorEq, sN4, sI1, sI2, sI3, sN5, sN6, dgA]
  refine callD (f196 xs c x hl) ?_
  simp only [vmA, sN1, reduceIte, sN2, sN3, reduceCtorEq, sN4, sI1, sI2, sI3, sN5, sN6, dgA]
  (refine hQ _ ?_; simp only [vmA, sN1, reduceIte, sN2, sN3, reduceCtorEq, sN4, sI1, sI2, sI3, sN5, sN6, Tryz.f147, retG, resL, St.closeVs, St.closeV])
  exact leafB (idxL_ge (fun e => edQ x e) xs 0 (by omega))
theorem f146 (xs : List Ed) (c : Bool) (a b : Int) (hl : xs.length ≤ 9223372036854775807) : Fx 146 [.int .i64 a, .int .i64 b, .cptr none [.fro none c (xs.map dgA)]] (.bool (decide (∃ e ∈ xs, edQ ⟨a, b, 3⟩ e))) := by
  refine fn_of ⟨false, [], []⟩ Tryz.func146 (by kernel_rfl) rfl (by kernel_rfl) (by kernel_rfl) (Nat.le_of_ble_eq_true rfl) rfl fun Q hQ => ?_
  simp only [vmA, sN1, reduceIte, sN2, sN3, reduceCtorEq, sN4, sI1, sI2, sI3, sN5, sN6, dgA]
  refine callD (f147 xs c ⟨a, b, 3⟩ hl) ?_
  simp only [vmA, sN1, reduceIte, sN2, sN3, reduceCtorEq, sN4, sI1, sI2, sI3, sN5, sN6, dgA]
  (refine hQ _ ?_; simp only [vmA, sN1, reduceIte, sN2, sN3, reduceCtorEq, sN4, sI1, sI2, sI3, sN5, sN6, Tryz.f146, retG, resL, St.closeVs, St.closeV])
theorem dg_edge {ts : List Tx} {L : List Ed} (h : edI ts L 4 0 1) (hw : ∀ t ∈ ts, wrsP t.ws) {a b : Nat} (ha : a < 4) (hb : b < 4) (h4 : ts.length = 4) : (∃ e ∈ L, edQ ⟨a, b, 3⟩ e) ↔ edgeP ts a b := by
  have rel : relP ts[a]! ts[b]! 3 ↔ blP ts[a]! ts[b]! := by
    have hk : ∀ w ∈ ts[b]!.ws, 0 ≤ w.key ∧ w.key ≤ 4 := fun w hm => by
      obtain ⟨i, hi, rfl⟩ := List.mem_iff_getElem.1 hm
      have := (hw ts[b]! (mem_get (by omega)) i hi).1
      rwa [getElem!_pos _ i hi] at this
    unfold relP blP blN
    constructor
    · rintro (e | e | ⟨_, _, e3, w, hm, e4⟩)
      · omega
      · omega
      · have := hk w hm
        refine ⟨w.key.toNat, by omega, ?_⟩
        rw [show ((w.key.toNat : Nat) : Int) = w.key by omega]
        exact ⟨e4, ⟨w, hm, rfl⟩, e3⟩
    · rintro ⟨k, _, e1, ⟨w, hm, e2⟩, e3⟩
      exact .inr (.inr ⟨by decide, by decide, e3, w, hm, by rw [e2]; exact e1⟩)
  constructor
  · rintro ⟨e, hm, e1, e2, e3⟩
    obtain ⟨⟨a', b', h1, h2, h3, h5, h6, h7⟩, _⟩ := (h e).1 hm
    dsimp only at e1 e2 e3
    obtain rfl : a' = a := by omega
    obtain rfl : b' = b := by omega
    rw [e3] at h7
    exact ⟨h7.1, h7.2.1, h7.2.2.1, rel.1 h7.2.2.2⟩
  · rintro ⟨h1, h2, h3, h5⟩
    exact ⟨⟨a, b, 3⟩, (h _).2 ⟨⟨a, b, ha, hb, by dsimp only; omega, rfl, rfl, h1, h2, h3, rel.2 h5⟩, by dsimp only; omega⟩, rfl, rfl, rfl⟩
def besI (ts : List Tx) (a b : Nat) : Prop := a ≠ b ∧ ts[a]!.st = 2 ∧ ts[b]!.st = 2 ∧ besP ts[a]! ts[b]!
instance (ts : List Tx) (a b : Nat) : Decidable (besI ts a b) := by unfold besI; exact inferInstance
def enX (σ : St) (e g sz : Nat) (L : List AV) : Prop := (σ.en e).live = true ∧ (σ.en e).gen = g ∧ (σ.en e).frz = false ∧ (σ.en e).sz = sz ∧ (σ.en e).elems = L
theorem f148 (h : Hs) (a b : Nat) (ho : okH h) (h4 : h.tx.length = 4) (ha : a < 4) (hb : b < 4) : Fx 148 [hA h, .int .i64 a, .int .i64 b] (.bool (decide (besI h.tx a b))) := by
  refine fn_ofX ⟨false, [], [(1, [], [1000, 0, 1, 2, 3, 4, 7])]⟩ Tryz.func148 (by kernel_rfl) rfl (by kernel_rfl) (by kernel_rfl) (Nat.le_of_ble_eq_true rfl) rfl fun Q hQ => ?_
  simp only [tr_seq, tr_block, tr_loop, tr_cond, tr_skip, tr_exit, tr_ret, tr_reg]
  rw [tr_tree 1 [0, 1, 2, 3, 4, 7] (.both 5 (.both 6 (.both 8 (.both 9 (.both 10 (.both 11 (.both 12 (.both 13 .leaf .leaf) .leaf) .leaf) (.both 11 (.both 10 (.both 12 (.both 13 .leaf .leaf) .leaf) .leaf) .leaf)) (.both 10 (.both 9 (.both 11 (.both 12 (.both 13 .leaf .leaf) .leaf) .leaf) (.both 11 (.both 9 (.both 12 (.both 13 .leaf .leaf) .leaf) (.both 12 (.both 9 (.both 13 .leaf .leaf) .leaf) .leaf)) .leaf)) (.both 11 (.both 9 (.both 10 (.both 12 (.both 13 .leaf .leaf) .leaf) .leaf) (.both 10 (.both 9 (.both 12 (.both 13 .leaf .leaf) .leaf) (.both 12 (.both 9 (.both 13 .leaf .leaf) .leaf) .leaf)) .leaf)) .leaf))) (.both 10 (.both 8 (.both 9 (.both 11 (.both 12 (.both 13 .leaf .leaf) .leaf) .leaf) (.both 11 (.both 9 (.both 12 (.both 13 .leaf .leaf) .leaf) (.both 12 (.both 9 (.both 13 .leaf .leaf) .leaf) .leaf)) .leaf)) (.both 11 (.both 8 (.both 9 (.both 12 (.both 13 .leaf .leaf) .leaf) (.both 12 (.both 9 (.both 13 .leaf .leaf) .leaf) .leaf)) (.both 12 (.both 8 (.both 9 (.both 13 .leaf .leaf) .leaf) .leaf) .leaf)) .leaf)) (.both 11 (.both 8 (.both 9 (.both 10 (.both 12 (.both 13 .leaf .leaf) .leaf) .leaf) (.both 10 (.both 9 (.both 12 (.both 13 .leaf .leaf) .leaf) (.both 12 (.both 9 (.both 13 .leaf .leaf) .leaf) .leaf)) .leaf)) (.both 10 (.both 8 (.both 9 (.both 12 (.both 13 .leaf .leaf) .leaf) (.both 12 (.both 9 (.both 13 .leaf .leaf) .leaf) .leaf)) (.both 12 (.both 8 (.both 9 (.both 13 .leaf .leaf) .leaf) .leaf) .leaf)) .leaf)) .leaf))) (.both 10 (.both 6 (.both 8 (.both 9 (.both 11 (.both 12 (.both 13 .leaf .leaf) .leaf) .leaf) (.both 11 (.both 9 (.both 12 (.both 13 .leaf .leaf) .leaf) (.both 12 (.both 9 (.both 13 .leaf .leaf) .leaf) .leaf)) .leaf)) (.both 11 (.both 8 (.both 9 (.both 12 (.both 13 .leaf .leaf) .leaf) (.both 12 (.both 9 (.both 13 .leaf .leaf) .leaf) .leaf)) (.both 12 (.both 8 (.both 9 (.both 13 .leaf .leaf) .leaf) .leaf) .leaf)) .leaf)) (.both 11 (.both 6 (.both 8 (.both 9 (.both 12 (.both 13 .leaf .leaf) .leaf) (.both 12 (.both 9 (.both 13 .leaf .leaf) .leaf) .leaf)) (.both 12 (.both 8 (.both 9 (.both 13 .leaf .leaf) .leaf) .leaf) .leaf)) (.both 12 (.both 6 (.both 8 (.both 9 (.both 13 .leaf .leaf) .leaf) .leaf) .leaf) .leaf)) .leaf)) (.both 11 (.both 6 (.both 8 (.both 9 (.both 10 (.both 12 (.both 13 .leaf .leaf) .leaf) .leaf) (.both 10 (.both 9 (.both 12 (.both 13 .leaf .leaf) .leaf) (.both 12 (.both 9 (.both 13 .leaf .leaf) .leaf) .leaf)) .leaf)) (.both 10 (.both 8 (.both 9 (.both 12 (.both 13 .leaf .leaf) .leaf) (.both 12 (.both 9 (.both 13 .leaf .leaf) .leaf) .leaf)) (.both 12 (.both 8 (.both 9 (.both 13 .leaf .leaf) .leaf) .leaf) .leaf)) .leaf)) (.both 10 (.both 6 (.both 8 (.both 9 (.both 12 (.both 13 .leaf .leaf) .leaf) (.both 12 (.both 9 (.both 13 .leaf .leaf) .leaf) .leaf)) (.both 12 (.both 8 (.both 9 (.both 13 .leaf .leaf) .leaf) .leaf) .leaf)) (.both 12 (.both 6 (.both 8 (.both 9 (.both 13 .leaf .leaf) .leaf) .leaf) .leaf) .leaf)) .leaf)) .leaf))) (.both 10 (.both 5 (.both 6 (.both 8 (.both 9 (.both 11 (.both 12 (.both 13 .leaf .leaf) .leaf) .leaf) (.both 11 (.both 9 (.both 12 (.both 13 .leaf .leaf) .leaf) (.both 12 (.both 9 (.both 13 .leaf .leaf) .leaf) .leaf)) .leaf)) (.both 11 (.both 8 (.both 9 (.both 12 (.both 13 .leaf .leaf) .leaf) (.both 12 (.both 9 (.both 13 .leaf .leaf) .leaf) .leaf)) (.both 12 (.both 8 (.both 9 (.both 13 .leaf .leaf) .leaf) .leaf) .leaf)) .leaf)) (.both 11 (.both 6 (.both 8 (.both 9 (.both 12 (.both 13 .leaf .leaf) .leaf) (.both 12 (.both 9 (.both 13 .leaf .leaf) .leaf) .leaf)) (.both 12 (.both 8 (.both 9 (.both 13 .leaf .leaf) .leaf) .leaf) .leaf)) (.both 12 (.both 6 (.both 8 (.both 9 (.both 13 .leaf .leaf) .leaf) .leaf) .leaf) .leaf)) .leaf)) (.both 11 (.both 5 (.both 6 (.both 8 (.both 9 (.both 12 (.both 13 .leaf .leaf) .leaf) (.both 12 (.both 9 (.both 13 .leaf .leaf) .leaf) .leaf)) (.both 12 (.both 8 (.both 9 (.both 13 .leaf .leaf) .leaf) .leaf) .leaf)) (.both 12 (.both 6 (.both 8 (.both 9 (.both 13 .leaf .leaf) .leaf) .leaf) .leaf) .leaf)) (.both 12 (.both 5 (.both 6 (.both 8 (.both 9 (.both 13 .leaf .leaf) .leaf) .leaf) .leaf) .leaf) .leaf)) .leaf)) (.both 11 (.both 5 (.both 6 (.both 8 (.both 9 (.both 10 (.both 12 (.both 13 .leaf .leaf) .leaf) .leaf) (.both 10 (.both 9 (.both 12 (.both 13 .leaf .leaf) .leaf) (.both 12 (.both 9 (.both 13 .leaf .leaf) .leaf) .leaf)) .leaf)) (.both 10 (.both 8 (.both 9 (.both 12 (.both 13 .leaf .leaf) .leaf) (.both 12 (.both 9 (.both 13 .leaf .leaf) .leaf) .leaf)) (.both 12 (.both 8 (.both 9 (.both 13 .leaf .leaf) .leaf) .leaf) .leaf)) .leaf)) (.both 10 (.both 6 (.both 8 (.both 9 (.both 12 (.both 13 .leaf .leaf) .leaf) (.both 12 (.both 9 (.both 13 .leaf .leaf) .leaf) .leaf)) (.both 12 (.both 8 (.both 9 (.both 13 .leaf .leaf) .leaf) .leaf) .leaf)) (.both 12 (.both 6 (.both 8 (.both 9 (.both 13 .leaf .leaf) .leaf) .leaf) .leaf) .leaf)) .leaf)) (.both 10 (.both 5 (.both 6 (.both 8 (.both 9 (.both 12 (.both 13 .leaf .leaf) .leaf) (.both 12 (.both 9 (.both 13 .leaf .leaf) .leaf) .leaf)) (.both 12 (.both 8 (.both 9 (.both 13 .leaf .leaf) .leaf) .leaf) .leaf)) (.both 12 (.both 6 (.both 8 (.both 9 (.both 13 .leaf .leaf) .leaf) .leaf) .leaf) .leaf)) (.both 12 (.both 5 (.both 6 (.both 8 (.both 9 (.both 13 .leaf .leaf) .leaf) .leaf) .leaf) .leaf) .leaf)) .leaf)) .leaf))) (by kernel_rfl)]
  simp only [codeA_nil, codeA_look, codeA_hard, codeA_fin, ordC_leaf, ordC_one, ordC_both, pickL, List.getElem?_toArray, List.getElem?_cons_zero, List.getElem?_cons_succ]
  simp only [vmA, sN1, reduceIte, sN2, sN3, reduceCtorEq, sN4, sI1, sI2, sI3, sN5, sN6, hA, xA, List.length_map, h4]
  refine ⟨by omega, by omega, ?_⟩
  refine WT_cut (fun σ => σ.sl 1 = .int .i64 a ∧ σ.sl 2 = .int .i64 b ∧ (σ.sl 7 = .ptr 448 1 0 0 ∧ enX σ 448 1 5 [xA h.tx[a]!]) ∧ σ.sl 8 = .ptr 512 1 0 0 ∧ enX σ 512 1 5 [xA h.tx[b]!]) ?_ ?_
  · simp (config := { maxSteps := 3000000 }) only [vmA, sN1, reduceIte, sN2, sN3, reduceCtorEq, sN4, sI1, sI2, sI3, sN5, sN6, WT_both, hA, xA, List.length_map, h4, Option.bind_none, enX]
    exact ⟨by omega, hb⟩
  · rintro σ ⟨s1, s2, ⟨e7, a1, a2, a3, a4, a5⟩, e8, b1, b2, b3, b4, b5⟩
    show WT _ _ _ _ _ _
    simp only [vmA, sN1, reduceIte, sN2, sN3, reduceCtorEq, sN4, sI1, sI2, sI3, sN5, sN6, s1, s2, e7, a1, a2, a3, a4, a5, e8, b1, b2, b3, b4, b5, xA]
    refine ⟨fun q1 => ⟨fun q2 => ⟨fun q3 => ⟨fun q4 => ?_, fun q4 => ?_⟩, fun q3 => ?_⟩, fun q2 => ?_⟩, fun q1 => ?_⟩
    · (refine hQ _ ?_; simp only [vmA, sN1, reduceIte, sN2, sN3, reduceCtorEq, sN4, sI1, sI2, sI3, sN5, sN6, Tryz.f148, retG, resL, St.closeVs, St.closeV])
      exact leafB ⟨fun e => ⟨fun e2 => q1 (by rw [e2]), q2, q3, q4, e⟩, fun e => e.2.2.2.2⟩
    · (refine hQ _ ?_; simp only [vmA, sN1, reduceIte, sN2, sN3, reduceCtorEq, sN4, sI1, sI2, sI3, sN5, sN6, Tryz.f148, retG, resL, St.closeVs, St.closeV])
      exact leafF fun e => q4 e.2.2.2.1
    · (refine hQ _ ?_; simp only [vmA, sN1, reduceIte, sN2, sN3, reduceCtorEq, sN4, sI1, sI2, sI3, sN5, sN6, Tryz.f148, retG, resL, St.closeVs, St.closeV])
      exact leafF fun e => q3 e.2.2.1
    · (refine hQ _ ?_; simp only [vmA, sN1, reduceIte, sN2, sN3, reduceCtorEq, sN4, sI1, sI2, sI3, sN5, sN6, Tryz.f148, retG, resL, St.closeVs, St.closeV])
      exact leafF fun e => q2 e.2.1
    · (refine hQ _ ?_; simp only [vmA, sN1, reduceIte, sN2, sN3, reduceCtorEq, sN4, sI1, sI2, sI3, sN5, sN6, Tryz.f148, retG, resL, St.closeVs, St.closeV])
      exact leafF fun e => e.1 (by omega)
