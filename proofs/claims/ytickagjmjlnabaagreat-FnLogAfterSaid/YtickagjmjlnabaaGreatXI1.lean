/- WALK of functions of the seat, or plain laws for it: each theorem f<k> says what function k returns, for every world and all arguments that stand for the values named. Conditions: none but those ahead of each theorem. -/
import Derived.Test.YtickagjmjlnabaaGreatXSv
import Derived.Test.YtickagjmjlnabaaGreatXC1
import Derived.Test.YtickagjmjlnabaaGreatXH8
import Derived.Test.YtickagjmjlnabaaGreatXG4
open Go Go.Vm Go.Proofs
set_option maxRecDepth 100000
set_option maxHeartbeats 8000000
set_option linter.unusedSimpArgs false
set_option linter.unusedVariables false
/-- Cells that stand for integers. -/
theorem RepL.ints {F : Nat → Prop} {w : World} : ∀ (xs : List Int) {us : List Value} {g : List Nat}, RepL F w us ((xs.map iA).flatMap leaves) g → us = xs.map (Value.int .i64)
  | [], us, g, h => by cases h; rfl
  | x :: xs, us, g, h => by
    have h : RepL F w us (.int .i64 x :: (xs.map iA).flatMap leaves) g := h
    cases h with
    | int t => rw [RepL.ints xs t]; rfl
theorem RepL.of_ints {F : Nat → Prop} {w : World} : ∀ (xs : List Int), RepL F w (xs.map (Value.int .i64)) ((xs.map iA).flatMap leaves) []
  | [] => .nil
  | x :: xs => .int (RepL.of_ints xs)
theorem f46 (xs : List Int) (c : Bool) (hl : xs.length ≤ 1048576) : Fx 46 [.clo 48 [.cptr none [.fro none c (xs.map iA)]]] (.own 1 (xs.map iA)) := by
  refine ⟨⟨Tryz.f46, _, by kernel_rfl, rfl, rfl⟩, fun w F vals gs hF ha hnd hgs => ?_⟩
  generalize hargs : [AV.clo 48 [.cptr none [.fro none c (xs.map iA)]]] = args at ha
  cases ha with
  | nil => cases hargs
  | cons h1 h2 =>
  cases hargs
  cases h2
  have h1 : RepL F w [_] [.clo 48 [.cptr none [.fro none c (xs.map iA)]]] _ := h1
  cases h1 with
  | clo hu t =>
  cases t
  cases hu with
  | cptr hb hcell hu2 t2 =>
  cases t2
  rename_i b o us
  obtain ⟨L, hL⟩ : ∃ L, xs.map iA = L := ⟨_, rfl⟩
  rw [hL] at hu2
  have key : ∃ sv, us = [sv] ∧ SvInts w.heap.size w sv xs := by
    cases hu2 with
    | fro0 hc t =>
      cases t
      obtain rfl : xs = [] := List.map_eq_nil_iff.1 hL
      exact ⟨_, rfl, .inl ⟨_, _, rfl, rfl⟩⟩
    | fro hn hnc hc hF2 hcell2 hsz hu3 t =>
      cases t
      subst hL
      obtain rfl := RepL.ints xs hu3
      refine ⟨_, rfl, .inr ⟨_, _, _, by rw [← hn, List.length_map], hF _ hF2, fun j hj => ?_⟩⟩
      have := hcell2 j (by simpa using hj)
      rw [this]
      simp [hj]
  obtain ⟨sv, rfl, hI⟩ := key
  have hc0 : w.cell? ⟨b, o, none⟩ = some sv := hcell 0 (by simp)
  refine (svCollect b o sv xs (by unfold maxLen; omega) (by omega) w (hF _ hb) hc0 hI).mono ?_
  rintro e w' ⟨v, rfl, hrow, hB⟩
  have hk : KeptS w w' (fun b => b ∈ ([] : List Nat)) := ⟨hB.os, hB.tape, hB.output, hB.size, fun b hb _ => hB.block b hb, fun b cur et fr h => ⟨cur, (hB.block b (Array.getElem?_eq_some_iff.1 h).1).trans h, rfl⟩⟩
  rcases hrow.2 with ⟨rfl, hz⟩ | ⟨g, cap, cur, rfl, hge, hg, r1, r2, r3, r4⟩
  · obtain rfl := List.eq_nil_of_length_eq_zero hz
    exact ⟨_, F, [], [], .own 1 [], .und, ⟨rfl, rfl⟩, rfl, hk, fun _ h => h, fun b h => ⟨Nat.lt_of_lt_of_le (hF b h) hB.size, .inl h⟩, by simp, by simp, RepL.own0 .nil, rfl⟩
  · have hgl := (Array.getElem?_eq_some_iff.1 hg).1
    refine ⟨_, F, [g], [], .own 1 (xs.map iA), .und, ⟨rfl, rfl⟩, rfl, hk, fun _ h => h, fun b h => ⟨Nat.lt_of_lt_of_le (hF b h) hB.size, .inl h⟩, ?_, by simp, ?_, rfl⟩
    · intro b hb
      obtain rfl : b = g := by simpa using hb
      exact ⟨fun hf => absurd (hF _ hf) (by omega), .inr hge, hgl⟩
    · refine RepL.own (f1 := []) (us := xs.map (Value.int .i64)) (by simp) r1 hg (by omega) (fun q hq => ?_) (fun a ha => ?_) (RepL.of_ints xs) .nil
      · have h5 : (cur.toList.take (xs.length * 1))[q]? = (xs.map (Value.int .i64))[q]? := by rw [r4]
        rw [← h5, List.getElem?_take_of_lt (by simpa using hq)]
        simp
      · obtain ⟨x, _, rfl⟩ := List.mem_map.1 ha; rfl
theorem f82 (a b : Int) : Fx 82 [.int .i64 a, .int .i64 b] (.bool (decide (a < b))) := by
  refine fn_of false Tryz.func82 (by kernel_rfl) rfl (by kernel_rfl) (by kernel_rfl) (Nat.le_of_ble_eq_true rfl) rfl fun Q hQ => ?_
  simp only [vmA, Nat.reduceEqDiff, reduceIte, Nat.reduceAdd, Nat.reduceBEq, reduceCtorEq, Nat.reduceLT, Int.reduceLE, Int.reduceLT, Int.reduceEq, Nat.reduceMul, Nat.reduceLeDiff]
  refine callD (f89 a) ?_
  simp only [vmA, Nat.reduceEqDiff, reduceIte, Nat.reduceAdd, Nat.reduceBEq, reduceCtorEq, Nat.reduceLT, Int.reduceLE, Int.reduceLT, Int.reduceEq, Nat.reduceMul, Nat.reduceLeDiff]
  (refine hQ _ ?_; simp only [vmA, Nat.reduceEqDiff, reduceIte, Nat.reduceAdd, Nat.reduceBEq, reduceCtorEq, Nat.reduceLT, Int.reduceLE, Int.reduceLT, Int.reduceEq, Nat.reduceMul, Nat.reduceLeDiff, Tryz.f82, retG, resL, St.closeVs, St.closeV])
theorem f86 (n : Int) (h0 : 0 ≤ n) (h1 : n < 256) : FxR 86 [.int .u64 n] fun r l => (∃ k : Int, r = .int .i64 k) ∧ l = .und := by
  refine fn_ofR false Tryz.func86 (by kernel_rfl) rfl (by kernel_rfl) (by kernel_rfl) (Nat.le_of_ble_eq_true rfl) rfl fun Q hQ => ?_
  have hA : (4294967296 ≤ n) = False := eq_false (by omega)
  have hB : (65536 ≤ n) = False := eq_false (by omega)
  have hC : (256 ≤ n) = False := eq_false (by omega)
  simp only [vmA, Nat.reduceEqDiff, reduceIte, Nat.reduceAdd, Nat.reduceBEq, reduceCtorEq, Nat.reduceLT, Int.reduceLE, Int.reduceLT, Int.reduceEq, Nat.reduceMul, Nat.reduceLeDiff, tt110, hA, hB, hC, false_implies, not_false_eq_true, true_implies]
  refine ⟨⟨?_, ?_⟩, ?_⟩
  · simp [IntKind.wrap, IntKind.bits, IntKind.signed]; omega
  · refine Int.lt_of_lt_of_le (b := 256) ?_ (by decide)
    simp [IntKind.wrap, IntKind.bits, IntKind.signed]; omega
  · (refine hQ _ ?_; simp only [vmA, Nat.reduceEqDiff, reduceIte, Nat.reduceAdd, Nat.reduceBEq, reduceCtorEq, Nat.reduceLT, Int.reduceLE, Int.reduceLT, Int.reduceEq, Nat.reduceMul, Nat.reduceLeDiff, Tryz.f86, retG, resL, St.closeVs, St.closeV])
    exact ⟨_, rfl⟩
theorem f64 (n : Int) (h0 : 0 ≤ n) (h1 : n < 256) : FxR 64 [.int .u64 n] fun r l => (∃ k : Int, r = .int .i64 k) ∧ l = .und := by
  refine fn_ofR false Tryz.func64 (by kernel_rfl) rfl (by kernel_rfl) (by kernel_rfl) (Nat.le_of_ble_eq_true rfl) rfl fun Q hQ => ?_
  simp only [vmA, Nat.reduceEqDiff, reduceIte, Nat.reduceAdd, Nat.reduceBEq, reduceCtorEq, Nat.reduceLT, Int.reduceLE, Int.reduceLT, Int.reduceEq, Nat.reduceMul, Nat.reduceLeDiff, Bool.false_eq_true, if_false]
  refine callR (f86 n h0 h1) ?_
  rintro _ _ ⟨⟨k, rfl⟩, rfl⟩
  simp only [vmA, Nat.reduceEqDiff, reduceIte, Nat.reduceAdd, Nat.reduceBEq, reduceCtorEq, Nat.reduceLT, Int.reduceLE, Int.reduceLT, Int.reduceEq, Nat.reduceMul, Nat.reduceLeDiff]
  (refine hQ _ ?_; simp only [vmA, Nat.reduceEqDiff, reduceIte, Nat.reduceAdd, Nat.reduceBEq, reduceCtorEq, Nat.reduceLT, Int.reduceLE, Int.reduceLT, Int.reduceEq, Nat.reduceMul, Nat.reduceLeDiff, Tryz.f64, retG, resL, St.closeVs, St.closeV])
  exact ⟨k, rfl⟩
theorem leafN {k : IntKind} {a b : Int} (h : a = b) : AV.int k a = AV.int k b := by rw [h]
theorem set_iA (ys : List Int) (i : Nat) (v : Int) : (ys.map iA).set i (.int .i64 v) = (ys.set i v).map iA := by rw [List.map_set]
/-- Two neighbours change places. -/
def swp (ys : List Int) (j : Nat) : List Int := (ys.set j ys[j - 1]!).set (j - 1) ys[j]!
theorem swp_length (ys : List Int) (j : Nat) : (swp ys j).length = ys.length := by simp [swp]
theorem swp_perm {ys : List Int} {j : Nat} (h0 : 0 < j) (h : j < ys.length) : (swp ys j).Perm ys := by
  unfold swp
  rw [getElem!_pos ys j h, getElem!_pos ys (j - 1) (by omega)]
  exact List.set_set_perm (by omega) (by omega)
theorem swp_at {ys : List Int} {j : Nat} (h0 : 0 < j) (h : j < ys.length) {p : Nat} (hp : p < ys.length) : (swp ys j)[p]! = if p = j then ys[j - 1]! else if p = j - 1 then ys[j]! else ys[p]! := by
  rw [getElem!_pos _ p (by rw [swp_length]; exact hp)]
  unfold swp
  rw [List.getElem_set, List.getElem_set]
  by_cases h1 : j - 1 = p
  · rw [if_pos h1, if_neg (by omega), if_pos h1.symm]
  · rw [if_neg h1]
    by_cases h2 : j = p
    · rw [if_pos h2, if_pos h2.symm]
    · rw [if_neg h2, if_neg (Ne.symm h2), if_neg (Ne.symm h1), getElem!_pos ys p hp]
/-- In order up to i, but for what lies at j; and that is not greater than what lies behind it. -/
def OrdX (ys : List Int) (i j : Nat) : Prop := (∀ p q, p < q → q ≤ i → p ≠ j → q ≠ j → ys[p]! ≤ ys[q]!) ∧ ∀ q, j < q → q ≤ i → ys[j]! ≤ ys[q]!
theorem OrdX.swp {ys : List Int} {i j : Nat} (h : OrdX ys i j) (h0 : 0 < j) (hj : j ≤ i) (hi : i < ys.length) (hlt : ys[j]! < ys[j - 1]!) : OrdX (swp ys j) i (j - 1) := by
  obtain ⟨h1, h2⟩ := h
  refine ⟨fun p q hpq hq hp1 hq1 => ?_, fun q hq hqi => ?_⟩
  · rw [swp_at h0 (by omega) (by omega), swp_at h0 (by omega) (by omega), if_neg hp1, if_neg hq1]
    by_cases hp : p = j
    · rw [if_pos hp, if_neg (by omega)]; exact h1 _ _ (by omega) hq (by omega) (by omega)
    · rw [if_neg hp]
      by_cases hq2 : q = j
      · rw [if_pos hq2]; exact h1 _ _ (by omega) (by omega) hp (by omega)
      · rw [if_neg hq2]; exact h1 _ _ hpq hq hp hq2
  · rw [swp_at h0 (by omega) (by omega), swp_at h0 (by omega) (by omega), if_neg (by omega), if_pos rfl]
    by_cases hq2 : q = j
    · rw [if_pos hq2]; omega
    · rw [if_neg hq2, if_neg (by omega)]; exact h2 q (by omega) hqi
theorem OrdX.done {ys : List Int} {i j : Nat} (h : OrdX ys i j) (hj : j ≤ i) (hd : j = 0 ∨ ¬ ys[j]! < ys[j - 1]!) : ∀ p q, p < q → q < i + 1 → ys[p]! ≤ ys[q]! := fun p q hpq hq => by
  obtain ⟨h1, h2⟩ := h
  by_cases hp : p = j
  · subst hp; exact h2 q hpq (by omega)
  · by_cases hq2 : q = j
    · subst hq2
      have h3 : ys[p]! ≤ ys[q - 1]! := by
        by_cases h4 : p = q - 1
        · rw [h4]; exact Int.le_refl _
        · exact h1 p (q - 1) (by omega) (by omega) hp (by omega)
      rcases hd with h4 | h4 <;> omega
    · exact h1 p q hpq (by omega) hp hq2
theorem f76 (xs : List Int) (hl : xs.length ≤ 1048576) : FxR 76 [.own 1 (xs.map iA), .int .i64 0, .int .i64 xs.length] fun r l => r = .tup [] ∧ ∃ ys : List Int, l = .own 1 (ys.map iA) ∧ ys.Perm xs ∧ ∀ p q, p < q → q < ys.length → ys[p]! ≤ ys[q]! := by
  refine fn_ofWN false (k := 0) Tryz.func76 (by kernel_rfl) rfl (by kernel_rfl) (by kernel_rfl) (Nat.le_of_ble_eq_true rfl) rfl ⟨_, _, .inl rfl⟩ rfl fun Q hQ hN => ?_
  simp only [tr_seq, tr_block, tr_loop, tr_cond, tr_skip, tr_exit, tr_ret, tr_reg]
  rw [tr_calm (by kernel_rfl), tr_cut 15 (by kernel_rfl)]
  simp only [vmA, Nat.reduceEqDiff, reduceIte, Nat.reduceAdd, Nat.reduceBEq, reduceCtorEq, Nat.reduceLT, Int.reduceLE, Int.reduceLT, Int.reduceEq, Nat.reduceMul, Nat.reduceLeDiff, List.length_map]
  rw [wr (by omega)]
  refine WT_loop (fun (p : Nat × List Int) σ => (p.1 ≤ xs.length + 1 ∧ p.2.Perm xs ∧ ∀ u v, u < v → v < p.1 → v < xs.length → p.2[u]! ≤ p.2[v]!) ∧ σ.sl 0 = .hd 0 1 0 xs.length false ∧ (σ.en 0).live = true ∧ (σ.en 0).gen = 1 ∧ (σ.en 0).frz = false ∧ (σ.en 0).sz = 1 ∧ (σ.en 0).elems = p.2.map iA ∧ σ.sl 1 = .int .i64 0 ∧ σ.sl 2 = .int .i64 xs.length ∧ σ.sl 6 = .int .i64 p.1) (fun p => xs.length + 1 - p.1) (1, xs) ⟨⟨by dsimp only; omega, .refl _, fun u v h1 h2 => absurd h1 (by dsimp only at h2; omega)⟩, by simp [put_sl, put_en, put_none, init_sl, fresh_sl, fresh_en, ent_sl, ent_en, init_en], by simp [put_sl, put_en, put_none, init_sl, fresh_sl, fresh_en, ent_sl, ent_en, init_en], by simp [put_sl, put_en, put_none, init_sl, fresh_sl, fresh_en, ent_sl, ent_en, init_en], by simp [put_sl, put_en, put_none, init_sl, fresh_sl, fresh_en, ent_sl, ent_en, init_en], by simp [put_sl, put_en, put_none, init_sl, fresh_sl, fresh_en, ent_sl, ent_en, init_en], by simp [put_sl, put_en, put_none, init_sl, fresh_sl, fresh_en, ent_sl, ent_en, init_en], by simp [put_sl, put_en, put_none, init_sl, fresh_sl, fresh_en, ent_sl, ent_en, init_en], by simp [put_sl, put_en, put_none, init_sl, fresh_sl, fresh_en, ent_sl, ent_en, init_en], by simp [put_sl, put_en, put_none, init_sl, fresh_sl, fresh_en, ent_sl, ent_en, init_en]⟩ ?_
  rintro ⟨i, ys⟩ σ ⟨⟨hi, hp, hs⟩, e0, l1, l2, l3, l4, l5, e1, e2, e6⟩
  dsimp only at hi hp hs l5 e6
  have hyl := hp.length_eq
  simp only [vmA, Nat.reduceEqDiff, reduceIte, Nat.reduceAdd, Nat.reduceBEq, reduceCtorEq, Nat.reduceLT, Int.reduceLE, Int.reduceLT, Int.reduceEq, Nat.reduceMul, Nat.reduceLeDiff, e0, l1, l2, l3, l4, l5, e1, e2, e6, List.length_map, hyl]
  refine ⟨fun hlt => ?_, fun hge => ?_⟩
  · refine WT_loop (fun (p : Nat × List Int) σ => (p.1 ≤ i ∧ p.2.Perm xs ∧ OrdX p.2 i p.1) ∧ σ.sl 0 = .hd 0 1 0 xs.length false ∧ (σ.en 0).live = true ∧ (σ.en 0).gen = 1 ∧ (σ.en 0).frz = false ∧ (σ.en 0).sz = 1 ∧ (σ.en 0).elems = p.2.map iA ∧ σ.sl 1 = .int .i64 0 ∧ σ.sl 2 = .int .i64 xs.length ∧ σ.sl 6 = .int .i64 i ∧ σ.sl 7 = .int .i64 p.1) (fun p => p.1) (i, ys) ⟨⟨Nat.le_refl _, hp, ⟨fun p q h1 h2 h3 h4 => hs p q h1 (by omega) (by omega), fun q h1 h2 => absurd h1 (by omega)⟩⟩, by simp [put_sl, put_en, put_none, init_sl, fresh_sl, fresh_en, ent_sl, ent_en, init_en, e0], by simp [put_sl, put_en, put_none, init_sl, fresh_sl, fresh_en, ent_sl, ent_en, init_en, l1], by simp [put_sl, put_en, put_none, init_sl, fresh_sl, fresh_en, ent_sl, ent_en, init_en, l2], by simp [put_sl, put_en, put_none, init_sl, fresh_sl, fresh_en, ent_sl, ent_en, init_en, l3], by simp [put_sl, put_en, put_none, init_sl, fresh_sl, fresh_en, ent_sl, ent_en, init_en, l4], by simp [put_sl, put_en, put_none, init_sl, fresh_sl, fresh_en, ent_sl, ent_en, init_en, l5], by simp [put_sl, put_en, put_none, init_sl, fresh_sl, fresh_en, ent_sl, ent_en, init_en, e1], by simp [put_sl, put_en, put_none, init_sl, fresh_sl, fresh_en, ent_sl, ent_en, init_en, e2], by simp [put_sl, put_en, put_none, init_sl, fresh_sl, fresh_en, ent_sl, ent_en, init_en, e6], by simp [put_sl, put_en, put_none, init_sl, fresh_sl, fresh_en, ent_sl, ent_en, init_en]⟩ ?_
    clear e0 l1 l2 l3 l4 l5 e1 e2 e6
    rintro ⟨j, zs⟩ σ ⟨⟨hj, hpz, ho⟩, e0, l1, l2, l3, l4, l5, e1, e2, e6, e7⟩
    dsimp only at hj hpz ho l5 e7
    have hzl := hpz.length_eq
    simp only [vmA, Nat.reduceEqDiff, reduceIte, Nat.reduceAdd, Nat.reduceBEq, reduceCtorEq, Nat.reduceLT, Int.reduceLE, Int.reduceLT, Int.reduceEq, Nat.reduceMul, Nat.reduceLeDiff, e0, l1, l2, l3, l4, l5, e1, e2, e6, e7, List.length_map, hzl]
    have hj1 : ((j : Int) - 1).toNat = j - 1 := by omega
    have hend : (j = 0 ∨ ¬ zs[j]! < zs[j - 1]!) → ∀ u v, u < v → v < i + 1 → v < xs.length → zs[u]! ≤ zs[v]! := fun h u v h1 h2 _ => ho.done hj h u v h1 h2
    refine ⟨fun h0 => ?_, fun h0 => ?_⟩
    · rw [wr (by omega)]
      refine ⟨by omega, by omega, by omega, by omega, callD (f82 _ _) ?_⟩
      simp only [vmA, Nat.reduceEqDiff, reduceIte, Nat.reduceAdd, Nat.reduceBEq, reduceCtorEq, Nat.reduceLT, Int.reduceLE, Int.reduceLT, Int.reduceEq, Nat.reduceMul, Nat.reduceLeDiff, e0, l1, l2, l3, l4, l5, e1, e2, e6, e7, List.length_map, hzl, hj1, set_iA]
      refine ⟨fun hlt2 => ?_, fun hnl => ?_⟩
      · rw [wr (by omega), hj1]
        refine ⟨⟨by omega, by omega⟩, by omega, by omega, by omega, by omega, by omega, ?_⟩
        simp only [vmA, Nat.reduceEqDiff, reduceIte, Nat.reduceAdd, Nat.reduceBEq, reduceCtorEq, Nat.reduceLT, Int.reduceLE, Int.reduceLT, Int.reduceEq, Nat.reduceMul, Nat.reduceLeDiff, e0, l1, l2, l3, l4, l5, e1, e2, e6, e7, List.length_map, hzl, hj1, set_iA, List.length_set]
        refine ⟨⟨by omega, by omega⟩, by omega, (j - 1, swp zs j), ⟨⟨by dsimp only; omega, (swp_perm (by omega) (by omega)).trans hpz, ho.swp (by omega) hj (by omega) hlt2⟩, rfl, leafN (by dsimp only; omega)⟩, by dsimp only; omega⟩
      · rw [wr (by omega)]
        exact ⟨(i + 1, zs), ⟨⟨by dsimp only; omega, hpz, hend (.inr hnl)⟩, rfl, rfl⟩, by dsimp only; omega⟩
    · rw [wr (by omega)]
      exact ⟨(i + 1, zs), ⟨⟨by dsimp only; omega, hpz, hend (.inl (by omega))⟩, rfl, rfl⟩, by dsimp only; omega⟩
  · (refine hN _ ?_; simp only [vmA, Nat.reduceEqDiff, reduceIte, Nat.reduceAdd, Nat.reduceBEq, reduceCtorEq, Nat.reduceLT, Int.reduceLE, Int.reduceLT, Int.reduceEq, Nat.reduceMul, Nat.reduceLeDiff, Tryz.f76, retG, resL, St.closeVs, St.closeV, leftV, ghostW, e0, l1, l2, l3, l4, l5, e1, e2, e6, List.length_map, hyl])
    refine ⟨ys, ?_, hp, fun p q h1 h2 => hs p q h1 (by omega) (by omega)⟩
    rw [List.take_of_length_le (by simp; omega)]
theorem hasFroL_ints (xs : List Int) : hasFro.hasFroL (xs.map iA) = false := by
  induction xs with
  | nil => rfl
  | cons x xs ih => simp only [List.map_cons, hasFro.hasFroL, ih]; rfl
theorem f63 (xs : List Int) (k : Int) (hl : xs.length ≤ 12) : FxR 63 [.own 1 (xs.map iA), .int .i64 0, .int .i64 xs.length, .int .i64 k] fun r l => r = .tup [] ∧ ∃ ys : List Int, l = .own 1 (ys.map iA) ∧ ys.Perm xs ∧ ∀ p q, p < q → q < ys.length → ys[p]! ≤ ys[q]! := by
  refine fn_ofW false (k := 0) Tryz.func63 (by kernel_rfl) rfl (by kernel_rfl) (by kernel_rfl) (Nat.le_of_ble_eq_true rfl) rfl ⟨_, _, .inl rfl⟩ rfl fun Q hQ => ?_
  simp only [vmA, Nat.reduceEqDiff, reduceIte, Nat.reduceAdd, Nat.reduceBEq, reduceCtorEq, Nat.reduceLT, Int.reduceLE, Int.reduceLT, Int.reduceEq, Nat.reduceMul, Nat.reduceLeDiff, List.length_map]
  refine WT_loop (fun (_ : Unit) σ => σ.sl 0 = .hd 0 1 0 xs.length false ∧ (σ.en 0).live = true ∧ (σ.en 0).gen = 1 ∧ (σ.en 0).frz = false ∧ (σ.en 0).sz = 1 ∧ (σ.en 0).elems = xs.map iA ∧ σ.sl 1 = .int .i64 0 ∧ σ.sl 2 = .int .i64 xs.length) (fun _ => 0) () ⟨by simp [put_sl, put_en, put_none, init_sl, fresh_sl, fresh_en, ent_sl, ent_en, init_en], by simp [put_sl, put_en, put_none, init_sl, fresh_sl, fresh_en, ent_sl, ent_en, init_en], by simp [put_sl, put_en, put_none, init_sl, fresh_sl, fresh_en, ent_sl, ent_en, init_en], by simp [put_sl, put_en, put_none, init_sl, fresh_sl, fresh_en, ent_sl, ent_en, init_en], by simp [put_sl, put_en, put_none, init_sl, fresh_sl, fresh_en, ent_sl, ent_en, init_en], by simp [put_sl, put_en, put_none, init_sl, fresh_sl, fresh_en, ent_sl, ent_en, init_en], by simp [put_sl, put_en, put_none, init_sl, fresh_sl, fresh_en, ent_sl, ent_en, init_en], by simp [put_sl, put_en, put_none, init_sl, fresh_sl, fresh_en, ent_sl, ent_en, init_en]⟩ ?_
  rintro _ σ ⟨e0, l1, l2, l3, l4, l5, e1, e2⟩
  have hw : IntKind.i64.wrap ((xs.length : Int) - 0) = xs.length := by rw [wr (by omega)]; omega
  have hA : ((xs.length : Int) ≤ 12) = True := eq_true (by omega)
  simp only [vmA, Nat.reduceEqDiff, reduceIte, Nat.reduceAdd, Nat.reduceBEq, reduceCtorEq, Nat.reduceLT, Int.reduceLE, Int.reduceLT, Int.reduceEq, Nat.reduceMul, Nat.reduceLeDiff, e0, l1, l2, l3, l4, l5, e1, e2, List.length_map, hw, hA, true_implies, not_true_eq_false, false_implies]
  refine callR (f76 xs (by omega)) ?_
  rintro _ _ ⟨rfl, ys, rfl, hp, hs⟩
  have hyl := hp.length_eq
  simp only [vmA, Nat.reduceEqDiff, reduceIte, Nat.reduceAdd, Nat.reduceBEq, reduceCtorEq, Nat.reduceLT, Int.reduceLE, Int.reduceLT, Int.reduceEq, Nat.reduceMul, Nat.reduceLeDiff, e0, l1, l2, l3, l4, l5, e1, e2, List.length_map, hyl]
  (refine hQ _ ?_; simp only [vmA, Nat.reduceEqDiff, reduceIte, Nat.reduceAdd, Nat.reduceBEq, reduceCtorEq, Nat.reduceLT, Int.reduceLE, Int.reduceLT, Int.reduceEq, Nat.reduceMul, Nat.reduceLeDiff, Tryz.f63, retG, resL, St.closeVs, St.closeV, leftV, ghostW, e0, l1, l2, l3, l4, l5, e1, e2, List.length_map, hyl])
  exact ⟨ys, by rw [List.take_of_length_le (by simp; omega)], hp, hs⟩
theorem f47 (xs : List Int) (hl : xs.length ≤ 12) : FxR 47 [.own 1 (xs.map iA)] fun r l => r = .tup [] ∧ ∃ ys : List Int, l = .own 1 (ys.map iA) ∧ ys.Perm xs ∧ ∀ p q, p < q → q < ys.length → ys[p]! ≤ ys[q]! := by
  refine fn_ofWN false (k := 0) Tryz.func47 (by kernel_rfl) rfl (by kernel_rfl) (by kernel_rfl) (Nat.le_of_ble_eq_true rfl) rfl ⟨_, _, .inl rfl⟩ rfl fun Q hQ hN => ?_
  simp only [tr_seq, tr_block, tr_loop, tr_cond, tr_skip, tr_exit, tr_ret, tr_reg]
  have hw : IntKind.u64.wrap (xs.length : Int) = xs.length := by simp [IntKind.wrap, IntKind.bits, IntKind.signed]; omega
  simp only [vmA, Nat.reduceEqDiff, reduceIte, Nat.reduceAdd, Nat.reduceBEq, reduceCtorEq, Nat.reduceLT, Int.reduceLE, Int.reduceLT, Int.reduceEq, Nat.reduceMul, Nat.reduceLeDiff, List.length_map, tt91, hw]
  refine callR (f64 xs.length (by omega) (by omega)) ?_
  rintro _ _ ⟨⟨k, rfl⟩, rfl⟩
  simp only [vmA, Nat.reduceEqDiff, reduceIte, Nat.reduceAdd, Nat.reduceBEq, reduceCtorEq, Nat.reduceLT, Int.reduceLE, Int.reduceLT, Int.reduceEq, Nat.reduceMul, Nat.reduceLeDiff, List.length_map, tt91, hw]
  refine callR (f63 xs k hl) ?_
  rintro _ _ ⟨rfl, ys, rfl, hp, hs⟩
  have hyl := hp.length_eq
  simp only [vmA, Nat.reduceEqDiff, reduceIte, Nat.reduceAdd, Nat.reduceBEq, reduceCtorEq, Nat.reduceLT, Int.reduceLE, Int.reduceLT, Int.reduceEq, Nat.reduceMul, Nat.reduceLeDiff, List.length_map, hyl]
  (refine hN _ ?_; simp only [vmA, Nat.reduceEqDiff, reduceIte, Nat.reduceAdd, Nat.reduceBEq, reduceCtorEq, Nat.reduceLT, Int.reduceLE, Int.reduceLT, Int.reduceEq, Nat.reduceMul, Nat.reduceLeDiff, Tryz.f47, retG, resL, St.closeVs, St.closeV, leftV, ghostW, List.length_map, hyl])
  exact ⟨ys, by rw [List.take_of_length_le (by simp; omega)], hp, hs⟩
theorem f25 (xs : List Int) (c : Bool) : Fx 25 [.fro none c (xs.map iA)] (.clo 48 [.cptr none [.fro none c (xs.map iA)]]) := by
  refine fn_of false Tryz.func25 (by kernel_rfl) rfl (by kernel_rfl) (by kernel_rfl) (Nat.le_of_ble_eq_true rfl) rfl fun Q hQ => ?_
  simp only [vmA, Nat.reduceEqDiff, reduceIte, Nat.reduceAdd, Nat.reduceBEq, reduceCtorEq, Nat.reduceLT, Int.reduceLE, Int.reduceLT, Int.reduceEq, Nat.reduceMul, Nat.reduceLeDiff, captureL, capture]
  (refine hQ _ ?_; simp only [vmA, Nat.reduceEqDiff, reduceIte, Nat.reduceAdd, Nat.reduceBEq, reduceCtorEq, Nat.reduceLT, Int.reduceLE, Int.reduceLT, Int.reduceEq, Nat.reduceMul, Nat.reduceLeDiff, Tryz.f25, retG, resL, St.closeVs, St.closeV])
theorem f24 (xs : List Int) (c : Bool) (hl : xs.length ≤ 12) : FxR 24 [.clo 48 [.cptr none [.fro none c (xs.map iA)]]] fun r l => (∃ ys : List Int, r = .own 1 (ys.map iA) ∧ ys.Perm xs ∧ ∀ p q, p < q → q < ys.length → ys[p]! ≤ ys[q]!) ∧ l = .und := by
  refine fn_ofR false Tryz.func24 (by kernel_rfl) rfl (by kernel_rfl) (by kernel_rfl) (Nat.le_of_ble_eq_true rfl) rfl fun Q hQ => ?_
  simp only [vmA, Nat.reduceEqDiff, reduceIte, Nat.reduceAdd, Nat.reduceBEq, reduceCtorEq, Nat.reduceLT, Int.reduceLE, Int.reduceLT, Int.reduceEq, Nat.reduceMul, Nat.reduceLeDiff]
  refine callD (f46 xs c (by omega)) ?_
  simp only [vmA, Nat.reduceEqDiff, reduceIte, Nat.reduceAdd, Nat.reduceBEq, reduceCtorEq, Nat.reduceLT, Int.reduceLE, Int.reduceLT, Int.reduceEq, Nat.reduceMul, Nat.reduceLeDiff, behind_nf, hasFroL_ints, List.length_map]
  refine callR (f47 xs hl) ?_
  rintro _ _ ⟨rfl, ys, rfl, hp, hs⟩
  have hyl := hp.length_eq
  simp only [vmA, Nat.reduceEqDiff, reduceIte, Nat.reduceAdd, Nat.reduceBEq, reduceCtorEq, Nat.reduceLT, Int.reduceLE, Int.reduceLT, Int.reduceEq, Nat.reduceMul, Nat.reduceLeDiff, List.length_map, hyl]
  (refine hQ _ ?_; simp only [vmA, Nat.reduceEqDiff, reduceIte, Nat.reduceAdd, Nat.reduceBEq, reduceCtorEq, Nat.reduceLT, Int.reduceLE, Int.reduceLT, Int.reduceEq, Nat.reduceMul, Nat.reduceLeDiff, Tryz.f24, retG, resL, St.closeVs, St.closeV, List.length_map, hyl])
  refine ⟨ys, ?_, hp, hs⟩
  rw [List.take_of_length_le (by simp; omega)]
/-- How many have m or more. -/
def cntG (ps : List Int) (m : Nat) : Nat := ps.countP fun x => decide ((m : Int) ≤ x)
/-- The last one of 0 .. m - 1 that a majority has. -/
def bestUp (ps : List Int) : Nat → Nat
  | 0 => 0
  | m + 1 => if ps.length / 2 + 1 ≤ cntG ps m then m else bestUp ps m
theorem cntG_sorted {ys : List Int} (h : ∀ p q, p < q → q < ys.length → ys[p]! ≤ ys[q]!) (hn : 1 ≤ ys.length) (m : Nat) :
    ys.length / 2 + 1 ≤ cntG ys m ↔ (m : Int) ≤ ys[(ys.length - 1) / 2]! := by
  have hk : (ys.length - 1) / 2 < ys.length := by omega
  have hge : ∀ i, (ys.length - 1) / 2 ≤ i → i < ys.length → ys[(ys.length - 1) / 2]! ≤ ys[i]! := fun i h1 h2 => by
    rcases Nat.lt_or_ge ((ys.length - 1) / 2) i with h3 | h3
    · exact h _ _ h3 h2
    · obtain rfl : i = (ys.length - 1) / 2 := by omega
      exact Int.le_refl _
  have hle : ∀ i, i ≤ (ys.length - 1) / 2 → ys[i]! ≤ ys[(ys.length - 1) / 2]! := fun i h1 => by
    rcases Nat.lt_or_ge i ((ys.length - 1) / 2) with h3 | h3
    · exact h _ _ h3 hk
    · obtain rfl : i = (ys.length - 1) / 2 := by omega
      exact Int.le_refl _
  unfold cntG
  constructor
  · intro hc
    refine Int.not_lt.1 fun hlt => ?_
    have hd := congrArg (List.countP fun x => decide ((m : Int) ≤ x)) (List.take_append_drop ((ys.length - 1) / 2 + 1) ys)
    rw [List.countP_append] at hd
    have h0 : (ys.take ((ys.length - 1) / 2 + 1)).countP (fun x => decide ((m : Int) ≤ x)) = 0 := by
      refine List.countP_eq_zero.2 fun x hx => ?_
      obtain ⟨i, hi, rfl⟩ := List.mem_iff_getElem.1 hx
      have hi' : i < (ys.length - 1) / 2 + 1 ∧ i < ys.length := by rw [List.length_take] at hi; omega
      have := hle i (by omega)
      rw [getElem!_pos ys i hi'.2] at this
      simp only [List.getElem_take, decide_eq_true_eq]
      omega
    have h1 := List.countP_le_length (p := fun x => decide ((m : Int) ≤ x)) (l := ys.drop ((ys.length - 1) / 2 + 1))
    rw [List.length_drop] at h1
    rw [h0] at hd
    omega
  · intro hm
    have hd := congrArg (List.countP fun x => decide ((m : Int) ≤ x)) (List.take_append_drop ((ys.length - 1) / 2) ys)
    rw [List.countP_append] at hd
    have h1 : (ys.drop ((ys.length - 1) / 2)).countP (fun x => decide ((m : Int) ≤ x)) = (ys.drop ((ys.length - 1) / 2)).length := by
      refine List.countP_eq_length.2 fun x hx => ?_
      obtain ⟨i, hi, rfl⟩ := List.mem_iff_getElem.1 hx
      have hi' : (ys.length - 1) / 2 + i < ys.length := by rw [List.length_drop] at hi; omega
      have := hge ((ys.length - 1) / 2 + i) (by omega) hi'
      rw [getElem!_pos ys ((ys.length - 1) / 2 + i) hi'] at this
      simp only [List.getElem_drop, decide_eq_true_eq]
      omega
    rw [h1, List.length_drop] at hd
    omega
theorem bestUp_eq {ps : List Int} {v : Nat} (h : ∀ m, ps.length / 2 + 1 ≤ cntG ps m ↔ m ≤ v) : ∀ M, v < M → bestUp ps M = v := by
  intro M
  induction M with
  | zero => omega
  | succ M ih =>
    intro hM
    rw [bestUp]
    by_cases hv : M ≤ v
    · rw [if_pos ((h M).2 hv)]; omega
    · rw [if_neg fun hc => hv ((h M).1 hc)]
      exact ih (by omega)
/-- The middle of them in order is what most have. -/
theorem settled_law {ps ys : List Int} (hp : ys.Perm ps) (h : ∀ p q, p < q → q < ys.length → ys[p]! ≤ ys[q]!) (hn : 1 ≤ ps.length) (n : Nat) (hb : ∀ x ∈ ps, 0 ≤ x ∧ x ≤ n) :
    ys[(ys.length - 1) / 2]! = (bestUp ps (n + 1) : Nat) := by
  have hl := hp.length_eq
  have hk : (ys.length - 1) / 2 < ys.length := by omega
  have hx := hb ys[(ys.length - 1) / 2]! (hp.mem_iff.1 (by rw [getElem!_pos ys _ hk]; exact List.getElem_mem _))
  have hc : ∀ m, cntG ps m = cntG ys m := fun m => (hp.countP_eq _).symm
  have hs := cntG_sorted h (by omega)
  rw [bestUp_eq (v := ys[(ys.length - 1) / 2]!.toNat) (fun m => by rw [hc, ← hl, hs]; omega) _ (by omega)]
  omega
open Classical in
noncomputable def stV (es : List En) (ps : List Int) : Int := if plP es ps then ((bestUp ps (es.length + 1) : Nat) : Int) else -1
theorem cntG_next (ps : List Int) (m : Nat) {k : Nat} (h : k < ps.length) : cntG (ps.take (k + 1)) m = cntG (ps.take k) m + (if (m : Int) ≤ ps[k]! then 1 else 0) := by
  unfold cntG
  rw [List.take_add_one, List.countP_append, getElem!_pos ps k h]
  simp [h, List.countP_cons]
theorem f9 (es : List En) (c : Bool) (hl : es.length ≤ 1048576) (hs : ∀ e ∈ es, okE e) (ps : List Int) (c2 : Bool) (hl2 : ps.length ≤ 1048576) :
    Fx 9 [.fro none c (es.map eA), .fro none c2 (ps.map iA)] (.int .i64 (stV es ps)) := by
  refine fn_of false Tryz.func9 (by kernel_rfl) rfl (by kernel_rfl) (by kernel_rfl) (Nat.le_of_ble_eq_true rfl) rfl fun Q hQ => ?_
  simp only [vmA, Nat.reduceEqDiff, reduceIte, Nat.reduceAdd, Nat.reduceBEq, reduceCtorEq, Nat.reduceLT, Int.reduceLE, Int.reduceLT, Int.reduceEq, Nat.reduceMul, Nat.reduceLeDiff]
  refine callD (f23 es c (by omega) hs ps c2 (by omega)) ?_
  simp only [vmA, Nat.reduceEqDiff, reduceIte, Nat.reduceAdd, Nat.reduceBEq, reduceCtorEq, Nat.reduceLT, Int.reduceLE, Int.reduceLT, Int.reduceEq, Nat.reduceMul, Nat.reduceLeDiff, List.length_map]
  refine ⟨fun h1 => ?_, fun h1 => ?_⟩
  · (refine hQ _ ?_; simp only [vmA, Nat.reduceEqDiff, reduceIte, Nat.reduceAdd, Nat.reduceBEq, reduceCtorEq, Nat.reduceLT, Int.reduceLE, Int.reduceLT, Int.reduceEq, Nat.reduceMul, Nat.reduceLeDiff, Tryz.f9, retG, resL, St.closeVs, St.closeV])
    rw [stV, if_neg h1]
  rw [stV, if_pos h1] at hQ
  obtain ⟨_, ⟨h2, h3⟩, h4⟩ := h1
  refine callD (f25 ps c2) ?_
  simp only [vmA, Nat.reduceEqDiff, reduceIte, Nat.reduceAdd, Nat.reduceBEq, reduceCtorEq, Nat.reduceLT, Int.reduceLE, Int.reduceLT, Int.reduceEq, Nat.reduceMul, Nat.reduceLeDiff, behind_clo]
  refine callR (f24 ps c2 (by omega)) ?_
  rintro _ _ ⟨⟨ys, rfl, hp, hs⟩, rfl⟩
  have hyl := hp.length_eq
  have hlaw := settled_law hp hs h2 es.length h4
  simp only [vmA, Nat.reduceEqDiff, reduceIte, Nat.reduceAdd, Nat.reduceBEq, reduceCtorEq, Nat.reduceLT, Int.reduceLE, Int.reduceLT, Int.reduceEq, Nat.reduceMul, Nat.reduceLeDiff, behind_nf, hasFroL_ints, List.length_map]
  have hx : (ys.length - 1) / 2 < ys.length := by omega
  have hq : IntKind.i64.wrap ((IntKind.i64.wrap ((ys.length : Int) - 1)).tdiv 2) = ((ys.length - 1) / 2 : Nat) := by
    rw [wr (x := (ys.length : Int) - 1) (by omega), Int.tdiv_eq_ediv_of_nonneg (by omega), wr (by omega)]; omega
  rw [hq]
  refine ⟨by omega, by omega, ?_⟩
  rw [Int.toNat_natCast, hlaw]
  (refine hQ _ ?_; simp only [vmA, Nat.reduceEqDiff, reduceIte, Nat.reduceAdd, Nat.reduceBEq, reduceCtorEq, Nat.reduceLT, Int.reduceLE, Int.reduceLT, Int.reduceEq, Nat.reduceMul, Nat.reduceLeDiff, Tryz.f9, retG, resL, St.closeVs, St.closeV])
